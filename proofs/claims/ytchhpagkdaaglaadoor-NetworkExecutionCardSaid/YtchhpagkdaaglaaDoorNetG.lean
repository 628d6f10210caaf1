/- A new network, in the program and in the reference; what a network tells. -/
import Derived.Test.YtchhpagkdaaglaaDoorNetF
set_option linter.unusedVariables false
set_option linter.unusedSimpArgs false
namespace Go.Proofs.YtchhpagkdaaglaaDoor.SL
open Go

theorem Own.appB {te : TI} {e : TypeId} {H : Heap} {v x : Value} {n : Nat} {cs : List Value} {Fi : Nat → Prop} {k : Value → Heap → Prop} (ho : Own te.size e H v n cs) (hz : te.zero.cells.size = te.size) (hx : x.cells.size = te.size) (hx1 : ∀ c ∈ x.cells.toList, c.oneCell' = true) (hs : 0 < te.size) (hb : (n + 1) * te.bytes ≤ 140737488355328) (hm : n + 1 ≤ 9223372036854775807) (hF : ∀ b, blkOf v = some b → Fi b)
    (hk : ∀ v' H' Fi', Own te.size e H' v' (n + 1) (cs ++ x.cells.toList) → (∀ b, blkOf v' = some b → Fi' b) → Off Fi H H' → Wide Fi H Fi' → (∀ b, Fi' b → (Fi b → H b ≠ none) → H' b ≠ none) → k v' H') :
    oBuildS te e 1 [((0, te.size), x)] H fun s H1 => oAppend te e v s H1 k := by
  have hxl : x.cells.toList.length = te.size := by simpa using hx
  refine append_own ho hz hx hx1 hs hb hm fun s j cap hs' hjs hj hc hc2 => ?_
  have hoff : ∀ b c, H b = some c → b ≠ j → hins (hins H s (.cells x.cells.toList te.size e true)) j (.cells (cs ++ x.cells.toList) (cap * te.size) e true) b = some c := fun b c hb hbj => by
    rw [hins_other _ _ hbj]
    exact hins_get hs' hb
  refine hk _ _ (fun b => Fi b ∨ b = j) (.inr ⟨j, cap, rfl, hc, hc2, hins_self _ _ _, by rw [List.length_append, ho.length, hxl, Nat.succ_mul]⟩) (fun b hb => by cases hb; exact .inr rfl) (fun b c hb hn => hoff b c hb fun e => ?_) ⟨fun b hb => .inl hb, fun b hb => ?_⟩ (fun b hb hkn => ?_)
  · subst e
    rcases hj with hj | hj
    · exact hn (hF b hj)
    · rw [hj] at hb; cases hb
  · rcases hb with hb | rfl
    · exact .inl hb
    · rcases hj with hj | hj
      · exact .inl (hF _ hj)
      · exact .inr hj
  · by_cases e : b = j
    · subst e
      rw [hins_self]; simp
    · rcases hb with hb | hb
      · cases he : H b with
        | none => exact absurd he (hkn hb)
        | some c => rw [hoff b c he e]; simp
      · exact absurd hb e
section
variable {R R1 H H1 : Heap} {F : Nat → Prop} {tn : TypeId} {jn : Nat} {s : Scn} {cv dv tv tp : Value} {rd : Int} {views : List (List Ev)}
theorem NetAt.lt (h : NetAt R F tn H jn s cv dv tv tp rd views) {ti : TI} (ht : ti.agg = false) : vLoad ti (.pointer (some ⟨jn, 8, none⟩)) H = some tp := by
  obtain ⟨vv, rows, b1, _⟩ := h.body
  simp only [vLoad, b1, ht, Bool.false_eq_true, if_false]
  rfl
theorem NetAt.retape (h : NetAt R F tn H jn s cv dv tv tp rd views) {ti : TI} {tp' : Value} (ht : ti.agg = false) (hs : ti.size = 1) (ho : tp'.oneCell' = true) : ∃ H', vStore ti (.pointer (some ⟨jn, 8, none⟩)) tp' H = some H' ∧ NetAt R F tn H' jn s cv dv tv tp' rd views ∧ ∀ b, b ≠ jn → H' b = H b := by
  obtain ⟨vv, rows, b1, b2, b3, b4⟩ := h.body
  have st : vStore ti (.pointer (some ⟨jn, 8, none⟩)) tp' H = some (hins H jn (.cells (netCells s cv dv tv tp' rd vv) 9 tn true)) := by
    simp only [vStore, b1, stCells, ht, Bool.false_eq_true, if_false]
    rw [if_pos ⟨hs, ho, by show 8 < 9; omega⟩]
    rfl
  have oth : ∀ b, b ≠ jn → hins H jn (.cells (netCells s cv dv tv tp' rd vv) 9 tn true) b = H b := fun b hb => hins_other _ _ hb
  have hF : ∀ b, F b → b ≠ jn := fun b hb e => h.jF (e ▸ hb)
  refine ⟨_, st, ⟨fun b c hc => ?_, h.ok, h.off, fun b hb => ?_, h.jR, h.jF, vv, rows, hins_self _ _ _, b2.keep fun b c hb hc => ?_, b3, b4⟩, oth⟩
  · rw [oth b (fun e => by subst e; rw [h.jR] at hc; cases hc)]
    exact h.le b c hc
  · rw [oth b (hF b hb)]
    exact h.kn b hb
  · rw [oth b (hF b hb)]
    exact hc
end
/-- In the course of New. -/
structure TapSt (R : Heap) (F : Nat → Prop) (tn tt : TypeId) (jn : Nat) (s : Scn) (cv dv tv : Value) (views : List (List Ev)) (tp : Value) (Ft : Nat → Prop) (H : Heap) (i : Nat) : Prop where
  net : NetAt R F tn H jn s cv dv tv tp 0 views
  tap : ∃ us, Own 1 tt H tp i us
  own : ∀ b, blkOf tp = some b → Ft b
  bes : Beside R H F jn Ft
section
variable {R H H1 : Heap} {F Ft : Nat → Prop} {tn tt : TypeId} {jn : Nat} {s : Scn} {cv dv tv tp : Value} {views : List (List Ev)} {i : Nat}
theorem TapSt.mono (h : TapSt R F tn tt jn s cv dv tv views tp Ft H i) (hl : Le H H1) : TapSt R F tn tt jn s cv dv tv views tp Ft H1 i := by
  obtain ⟨us, ho⟩ := h.tap
  refine ⟨h.net.mono hl, ⟨us, ho.mono fun b hb => ?_⟩, h.own, ⟨h.bes.off, fun b hb => ?_, h.bes.dj⟩⟩
  · obtain ⟨_, _, e⟩ := ho.at_ hb
    rw [e, hl _ _ e]
  · cases he : H b with
    | none => exact absurd he (h.bes.kn b hb)
    | some c => rw [hl b c he]; simp
theorem TapSt.push {te tl : TI} {q : Nat} {k : Value → Heap → Prop} (h : TapSt R F tn tt jn s cv dv tv views tp Ft H i) (hz : te.zero.cells.size = te.size) (hs : te.size = 1) (hby : te.bytes = 8) (hla : tl.agg = false) (hls : tl.size = 1) (hi : i ≤ 1000)
    (hk : ∀ tp' H1 H2 Ft', vStore tl (.pointer (some ⟨jn, 8, none⟩)) tp' H1 = some H2 → TapSt R F tn tt jn s cv dv tv views tp' Ft' H2 (i + 1) → k tp' H1) :
    oBuildS te tt 1 [((0, te.size), ptrTo q)] H fun s H1 => oAppend te tt tp s H1 k := by
  obtain ⟨us, ho⟩ := h.tap
  refine Own.appB (te := te) (n := i) (cs := us) (by rw [hs]; exact ho) hz (by rw [hs]; rfl) (fun c hc => by have : c = ptrTo q := List.mem_singleton.1 hc; rw [this]; rfl) (by omega) (by rw [hby]; omega) (by omega) h.own fun tp' H1 Ft' c1 c2 c3 c4 c5 => ?_
  obtain ⟨n1, n2⟩ := h.net.beside h.bes c3 c4 c5
  have ho1 : tp'.oneCell' = true := by rcases c1 with ⟨rfl, _⟩ | ⟨_, _, rfl, _⟩ <;> rfl
  obtain ⟨H2, t1, t2, t3⟩ := n1.retape (ti := tl) (tp' := tp') hla hls ho1
  rw [hs] at c1
  refine hk tp' H1 H2 Ft' t1 ⟨t2, ⟨_, c1.mono fun b hb => t3 b (n2.dj b (c2 b hb)).2⟩, c2, ⟨n2.off, fun b hb => ?_, n2.dj⟩⟩
  rw [t3 b (n2.dj b hb).2]
  exact n2.kn b hb
theorem TapSt.init {H2 H3 : Heap} {vv : Value} {n : Nat} (hok : ScnOk H s cv dv tv) (hg : Grown H H2 1 49 vv n (List.replicate n (.slice none 0 0))) (hj : H2 jn = none) (h3 : H3 = hins H2 jn (.cells (netCells s cv dv tv (.slice none 0 0) 0 vv) 9 tn true)) :
    TapSt H (fun b => blkOf vv = some b) tn tt jn s cv dv tv (List.replicate n []) (.slice none 0 0) (fun _ => False) H3 0 := by
  subst h3
  have hl := Le.ins (.cells (netCells s cv dv tv (.slice none 0 0) 0 vv) 9 tn true) hj
  have kn2 : ∀ b, blkOf vv = some b → H2 b ≠ none := fun b hb => by
    obtain ⟨_, _, e⟩ := hg.2.1.at_ hb
    rw [e]; simp
  refine ⟨⟨hg.1.trans hl, hok, hg.2.2, fun b hb => ?_, none_le hg.1 hj, fun hb => kn2 jn hb hj, vv, List.replicate n [], hins_self _ _ _, (Nest.new hg).mono hl, by simp, fun k cs es hc he => ?_⟩, ⟨[], Own.nil _ _ _⟩, fun b hb => (by cases hb), ⟨fun b hb => hb.elim, fun b hb => hb.elim, fun b hb => hb.elim⟩⟩
  · cases he : H2 b with
    | none => exact absurd he (kn2 b hb)
    | some c => rw [hl b c he]; simp
  · have hlt : k < n := by simpa using (List.getElem?_eq_some_iff.1 hc).1
    rw [List.getElem?_replicate, if_pos hlt] at hc he
    cases hc
    cases he
    exact Cs.nil _ _
end
/-- What New gives. -/
def Born (tn : TypeId) (s : Scn) (cv dv tv : Value) (H : Heap) : Ending → Heap → Prop := Ret fun v H' => (ScnV s ∧ ∃ jn R F tp, v = .tuple #[ptrTo jn, .int .i64 0] ∧ Le H R ∧ NetAt R F tn H' jn s cv dv tv tp 0 (List.replicate s.N.toNat [])) ∨ (¬ ScnV s ∧ v = .tuple #[.pointer none, .int .i64 1] ∧ Le H H')
section
variable {H R : Heap} {F : Nat → Prop} {jn i1 : Nat} {s : Scn} {cv dv tv : Value} {views : List (List Ev)}
theorem taps_loop (hsl : s.tapes.length ≤ 1000) {kn : Value → Heap → Prop} {Q : Ending → Heap → Prop} (hk : ∀ tp H, NetAt R F 98 H jn s cv dv tv tp 0 views → kn (ptrTo jn) H) :
    ∀ (d i : Nat) (tp : Value) (Ft : Nat → Prop) (H : Heap), s.tapes.length - i = d → i ≤ s.tapes.length → TapSt R F 98 99 jn s cv dv tv views tp Ft H i → L12_3 (ptrTo jn) tv (.int .i64 s.tapes.length) (.int .i64 i) H kn Q := by
  intro d
  induction d with
  | zero =>
    intro i tp Ft H hd hi h
    apply L12_3_round
    unfold m12_4
    exact oV_eq (vInt_lss _ _ _) (condK_dec (fun hlt => absurd hlt (by omega)) (fun _ => hk tp H h.net))
  | succ d ih =>
    intro i tp Ft H hd hi h
    apply L12_3_round
    unfold m12_4
    refine oV_eq (vInt_lss _ _ _) (condK_dec (fun hlt => ?_) (fun hlt => absurd (by omega) hlt))
    obtain ⟨pt, u, a1, a2, a3⟩ := (h.net.ok.tapes.mono h.net.le).slice .i64 (i := (i : Int)) (by omega) (by omega) (ti := ty52) rfl
    have tape : RCalls Tryd.prog 53 [u] H (Ret fun v H' => Le H H' ∧ ∃ q, v = ptrTo q) := by
      obtain ⟨ub, uc, _, rfl, _⟩ := a3
      apply call53
      unfold m53
      refine oV_eq (v := .agg #[.slice ub _ uc, .int .i64 0]) rfl ?_
      intro q hq
      exact ⟨Le.ins _ hq, q, rfl⟩
    refine oV_eq a1 (oV_eq a2 (oV_eq (v := ptrTo jn) rfl (oV_eq (vField_to _ _) (oV_eq (h.net.lt rfl) (oRC_ret tape fun v H1 hv => ?_)))))
    obtain ⟨l1, q, rfl⟩ := hv
    have h1 := h.mono l1
    refine ⟨h1.net.lt rfl, ?_⟩
    refine h1.push (te := ty99) (tl := ty96) rfl rfl rfl rfl rfl (by omega) fun tp' H2 H3 Ft' st h3 => ?_
    refine oV_eq (v := ptrTo jn) rfl (oV_eq (vField_to _ _) (oHeap_eq st (oV_eq (vInt_add _ _ _) ?_)))
    rw [wrap_i64 (by omega) (by omega)]
    exact ih (i + 1) tp' Ft' H3 (by omega) (by omega) h3
theorem rtaps_loop (hn : (s.tapes.length : Int) = s.N) (hsl : s.tapes.length ≤ 1000) (htl : ∀ l ∈ s.tapes, l.length ≤ 1000000) (hs : SAt R i1 s cv dv tv) {kn : Value → Heap → Prop} {Q : Ending → Heap → Prop} (hk : ∀ tp H, NetAt R F 103 H jn s cv dv tv tp 0 views → kn (ptrTo jn) H) :
    ∀ (d i : Nat) (tp : Value) (Ft : Nat → Prop) (H : Heap), s.tapes.length - i = d → i ≤ s.tapes.length → TapSt R F 103 104 jn s cv dv tv views tp Ft H i → L13_3 (ptrTo i1) (ptrTo jn) (.int .i64 i) H kn Q := by
  intro d
  induction d with
  | zero =>
    intro i tp Ft H hd hi h
    apply L13_3_round
    unfold m13_4
    have hsH := hs.mono h.net.le
    exact oV_eq (vField_to _ _) (oV_eq (v := .pointer (some ⟨i1, 1, none⟩)) rfl (oV_eq hsH.n (oV_eq (vInt_lss _ _ _) (condK_dec (fun hlt => absurd hlt (by omega)) (fun _ => hk tp H h.net)))))
  | succ d ih =>
    intro i tp Ft H hd hi h
    apply L13_3_round
    unfold m13_4
    have hsH := hs.mono h.net.le
    refine oV_eq (vField_to _ _) (oV_eq (v := .pointer (some ⟨i1, 1, none⟩)) rfl (oV_eq hsH.n (oV_eq (vInt_lss _ _ _) (condK_dec (fun hlt => ?_) (fun hlt => absurd (by omega) hlt)))))
    have hil : i < s.tapes.length := by omega
    obtain ⟨pt, u, a1, a2, a3⟩ := (h.net.ok.tapes.mono h.net.le).slice .i64 (i := (i : Int)) (by omega) (by omega) (ti := ty52) rfl
    have e : s.tapes.getD (i : Int).toNat [] = s.tapes[i] := by simp [hil]
    rw [e] at a3
    have tape : RCalls Tryd.prog 55 [u] H (Ret fun v H' => Le H H' ∧ ∃ q, v = ptrTo q) := by
      apply call55
      unfold m55
      refine copy_empty fun e0 K lK hK => hK _ _ _ a3 (htl _ (List.getElem_mem hil)) fun w H1 hg => ?_
      obtain ⟨wb, wn, wc, rfl⟩ : ∃ b n c, w = .slice b n c := by
        obtain ⟨b, c, e, _⟩ := hg.2.1.read
        exact ⟨b, _, c, e⟩
      refine oV_eq (v := .agg #[.slice wb wn wc, .int .i64 0]) rfl ?_
      intro q hq
      exact ⟨hg.1.trans (Le.ins _ hq), q, rfl⟩
    refine oV_eq (v := ptrTo jn) rfl (oV_eq (vField_to _ _) (oV_eq (h.net.lt rfl) (oV_eq (vField_to _ _) (oV_eq hsH.t (oV_eq a1 (oV_eq a2 (oRC_ret tape fun v H1 hv => ?_)))))))
    obtain ⟨l1, q, rfl⟩ := hv
    have h1 := h.mono l1
    refine ⟨h1.net.lt rfl, ?_⟩
    refine h1.push (te := ty104) (tl := ty101) rfl rfl rfl rfl rfl (by omega) fun tp' H2 H3 Ft' st h3 => ?_
    refine oV_eq (v := ptrTo jn) rfl (oV_eq (vField_to _ _) (oHeap_eq st (oV_eq (vInt_add _ _ _) ?_)))
    rw [wrap_i64 (by omega) (by omega)]
    exact ih (i + 1) tp' Ft' H3 (by omega) (by omega) h3
theorem new_spec (hG : GL H) (hok : ScnOk H s cv dv tv) (hk : ∀ d ∈ s.devs, 0 ≤ d.k ∧ d.k ≤ 18446744073709551615) : RCalls Tryd.prog 12 [scnVal s cv dv tv] H (Born 98 s cv dv tv H) := by
  apply call12
  unfold m12
  refine scn_new s cv dv tv fun i1 H1 l1 hs => ?_
  refine oV_eq hs.all (oRC_ret (pscn_spec (hG.mono l1) (hok.mono l1) hk) fun v H2 hv => ?_)
  obtain ⟨l2, b, rfl, hb⟩ := hv
  have l := l1.trans l2
  replace hs := hs.mono l2
  cases b with
  | false => exact oV_eq (v := .bool true) rfl (condK_true (.inr ⟨fun h => by have := hb.2 h; (cases this), rfl, l⟩))
  | true =>
    have hV := hb.1 rfl
    obtain ⟨hp, hn4, hn13, _⟩ := hV.par
    have htl := hV.len
    obtain ⟨n, hn⟩ : ∃ n : Nat, s.N = n := ⟨s.N.toNat, by omega⟩
    have hsn := hs.n
    rw [hn] at hsn
    refine oV_eq (v := .bool false) rfl (condK_false (oV_eq hs.all (oV_eq (vField_to _ _) (oV_eq (v := .pointer (some ⟨i1, 1, none⟩)) rfl (oV_eq hsn ?_)))))
    refine oMake_own (te := ty49) rfl (by show 24 * _ ≤ _; omega) (by omega) fun vv H3 hg => ?_
    rw [zerosL_one rfl] at hg
    obtain ⟨vb, vn, vc, rfl⟩ : ∃ b n c, vv = .slice b n c := by
      obtain ⟨b, c, e, _⟩ := hg.2.1.read
      exact ⟨b, _, c, e⟩
    refine oV_eq (v := .agg (netCells s cv dv tv (.slice none 0 0) 0 (.slice vb vn vc)).toArray) rfl ?_
    show oNew (netCells s cv dv tv (.slice none 0 0) 0 (.slice vb vn vc)) 9 98 H3 _
    intro jn hj
    have h0 := TapSt.init (tt := 99) (tn := 98) (hok.mono l) hg hj rfl
    unfold m12_2
    have hs3 := (hs.mono hg.1).mono (Le.ins (.cells (netCells s cv dv tv (.slice none 0 0) 0 (.slice vb vn vc)) 9 98 true) hj)
    refine oV_eq (vField_to _ _) (oV_eq hs3.t (oV_eq hok.tapes.len ?_))
    refine taps_loop (by omega) (fun tp K hK => ?_) _ 0 _ _ _ rfl (by omega) h0
    unfold m12_1
    have hnn : s.N.toNat = n := by omega
    refine .inl ⟨hV, jn, H2, fun b => blkOf (.slice vb vn vc) = some b, tp, rfl, l, ?_⟩
    rw [hnn]
    exact hK
theorem rnew_spec (hok : ScnOk H s cv dv tv) (hk : ∀ d ∈ s.devs, 0 ≤ d.k ∧ d.k ≤ 18446744073709551615) (htb : ∀ l ∈ s.tapes, l.length ≤ 1000000) : RCalls Tryd.prog 13 [scnVal s cv dv tv] H (Born 103 s cv dv tv H) := by
  apply call13
  unfold m13
  refine scn_new s cv dv tv fun i1 H1 l1 hs => ?_
  refine oV_eq hs.all (oRC_ret (scn_spec (hok.mono l1) hk) fun v H2 hv => ?_)
  obtain ⟨l2, b, rfl, hb⟩ := hv
  have l := l1.trans l2
  replace hs := hs.mono l2
  cases b with
  | false => exact oV_eq (v := .bool true) rfl (condK_true (.inr ⟨fun h => by have := hb.2 h; (cases this), rfl, l⟩))
  | true =>
    have hV := hb.1 rfl
    obtain ⟨hp, hn4, hn13, _⟩ := hV.par
    have htl := hV.len
    obtain ⟨n, hn⟩ : ∃ n : Nat, s.N = n := ⟨s.N.toNat, by omega⟩
    have hsn := hs.n
    rw [hn] at hsn
    refine oV_eq (v := .bool false) rfl (condK_false (oV_eq hs.all (oV_eq (vField_to _ _) (oV_eq (v := .pointer (some ⟨i1, 1, none⟩)) rfl (oV_eq hsn ?_)))))
    refine oMake_own (te := ty49) rfl (by show 24 * _ ≤ _; omega) (by omega) fun vv H3 hg => ?_
    rw [zerosL_one rfl] at hg
    obtain ⟨vb, vn, vc, rfl⟩ : ∃ b n c, vv = .slice b n c := by
      obtain ⟨b, c, e, _⟩ := hg.2.1.read
      exact ⟨b, _, c, e⟩
    refine oV_eq (v := .agg (netCells s cv dv tv (.slice none 0 0) 0 (.slice vb vn vc)).toArray) rfl ?_
    show oNew (netCells s cv dv tv (.slice none 0 0) 0 (.slice vb vn vc)) 9 103 H3 _
    intro jn hj
    have h0 := TapSt.init (tt := 104) (tn := 103) (hok.mono l) hg hj rfl
    unfold m13_2
    refine rtaps_loop (by omega) (by omega) htb hs (fun tp K hK => ?_) _ 0 _ _ _ rfl (by omega) h0
    unfold m13_1
    have hnn : s.N.toNat = n := by omega
    refine .inl ⟨hV, jn, H2, fun b => blkOf (.slice vb vn vc) = some b, tp, rfl, l, ?_⟩
    rw [hnn]
    exact hK
end
/-! ### What a network tells -/
section
variable {R H : Heap} {F : Nat → Prop} {tn : TypeId} {jn : Nat} {s : Scn} {cv dv tv tp : Value} {rd : Int} {views : List (List Ev)}
theorem rounds_spec (h : NetAt R F tn H jn s cv dv tv tp rd views) : RCalls Tryd.prog 14 [ptrTo jn] H (Val (.int .i64 rd) H) := by
  apply call14
  unfold m14
  exact oV_eq (v := ptrTo jn) rfl (oV_eq (vField_to _ _) (oV_eq h.r ⟨rfl, rfl⟩))
theorem scenario_spec (h : NetAt R F tn H jn s cv dv tv tp rd views) : RCalls Tryd.prog 19 [ptrTo jn] H (Ret fun v H' => v = scnVal s cv dv tv ∧ Le H H') := by
  apply call19
  unfold m19
  obtain ⟨b1, c1, _, rfl, _⟩ := id h.ok.bad
  obtain ⟨b2, c2, _, rfl, _⟩ := id h.ok.devs
  obtain ⟨b3, c3, _, rfl, _⟩ := id h.ok.tapes
  show oNew [.int .u64 0, .int .i64 0, .int .i64 0, .slice none 0 0, .slice none 0 0, .slice none 0 0] 6 29 H _
  intro q hq
  have hl := Le.ins (.cells [.int .u64 0, .int .i64 0, .int .i64 0, .slice none 0 0, .slice none 0 0, .slice none 0 0] 6 29 true) hq
  refine oV_eq (v := ptrTo jn) rfl (oV_eq (vField_to _ _) (oV_eq (h.mono hl).scn ?_))
  have st : vStore ty29 (ptrTo q) (scnVal s (.slice b1 s.bad.length c1) (.slice b2 s.devs.length c2) (.slice b3 s.tapes.length c3)) (hins H q (.cells [.int .u64 0, .int .i64 0, .int .i64 0, .slice none 0 0, .slice none 0 0, .slice none 0 0] 6 29 true)) =
      some (hins (hins H q (.cells [.int .u64 0, .int .i64 0, .int .i64 0, .slice none 0 0, .slice none 0 0, .slice none 0 0] 6 29 true)) q (.cells [.int .u64 s.P, .int .i64 s.N, .int .i64 s.T, .slice b1 s.bad.length c1, .slice b2 s.devs.length c2, .slice b3 s.tapes.length c3] 6 29 true)) := by
    simp only [vStore, ptrTo, hins_self]
    rfl
  rw [hins_hins] at st
  refine oHeap_eq st ?_
  have ld : vLoad ty29 (ptrTo q) (hins H q (.cells [.int .u64 s.P, .int .i64 s.N, .int .i64 s.T, .slice b1 s.bad.length c1, .slice b2 s.devs.length c2, .slice b3 s.tapes.length c3] 6 29 true)) = some (scnVal s (.slice b1 s.bad.length c1) (.slice b2 s.devs.length c2) (.slice b3 s.tapes.length c3)) := by
    simp only [vLoad, ptrTo, hins_self]
    rfl
  rw [ld]
  exact ⟨rfl, Le.ins _ hq⟩
end
end Go.Proofs.YtchhpagkdaaglaaDoor.SL
