/- One round in both networks; which executions the law lets in. -/
import Derived.Test.YtchhpagkdaaglaaDoorNetH
set_option linter.unusedVariables false
set_option linter.unusedSimpArgs false
namespace Go.Proofs.YtchhpagkdaaglaaDoor.SL
open Go

def castL (msgs : List (List (List Int))) : List (List Int) := msgs.map fun row => row.getD 0 []
theorem castL_msgs {p n : Int} {msgs : List (List (List Int))} (h : MsgsM p n msgs) : Msgs p n (castL msgs) := by
  refine ⟨by unfold castL; rw [List.length_map]; exact h.len, fun r hr => ?_⟩
  obtain ⟨row, hrow, rfl⟩ := List.mem_map.1 hr
  exact (h.rows row hrow).get 0
theorem Rw.nil (H : Heap) : Rw H H (.slice none 0 0) [] := ⟨[], rfl, Grown.nil _ _ _, fun j u r h => by simp at h⟩
theorem broadcasts_spec {H : Heap} {mv : Value} {msgs : List (List (List Int))} (hm : Sl (eSlice (eSlice (eInt .u64))) H mv msgs) (hr : ∀ row ∈ msgs, 0 < row.length) (hl : msgs.length ≤ 1000) : RCalls Tryd.prog 57 [mv] H (Ret fun v H' => Le H H' ∧ Sl (eSlice (eInt .u64)) H' v (castL msgs)) := by
  apply call57
  unfold m57 m57_2
  have key : ∀ (d i : Nat) (v : Value) (K : Heap), msgs.length - i = d → i ≤ msgs.length → Rw H K v ((castL msgs).take i) → L57_3 mv v (.int .i64 i) K (fun y3 H_13 => m57_1 y3 H_13 (Ret fun v H' => Le H H' ∧ Sl (eSlice (eInt .u64)) H' v (castL msgs))) (Ret fun v H' => Le H H' ∧ Sl (eSlice (eInt .u64)) H' v (castL msgs)) := by
    have hcl : (castL msgs).length = msgs.length := by simp [castL]
    intro d
    induction d with
    | zero =>
      intro i v K hd hi h
      apply L57_3_round
      unfold m57_4
      refine oV_eq (hm.mono h.le).len (oV_eq (vInt_lss _ _ _) (condK_dec (fun hlt => absurd hlt (by omega)) (fun _ => ?_)))
      unfold m57_1
      rw [List.take_of_length_le (by omega)] at h
      exact ⟨h.le, h.sl⟩
    | succ d ih =>
      intro i v K hd hi h
      apply L57_3_round
      unfold m57_4
      refine oV_eq (hm.mono h.le).len (oV_eq (vInt_lss _ _ _) (condK_dec (fun hlt => ?_) (fun hlt => absurd (by omega) hlt)))
      have hil : i < msgs.length := by omega
      obtain ⟨pa, ua, a1, a2, a3⟩ := hm.slice .i64 (i := (i : Int)) (by omega) (by omega) (ti := ty27) rfl
      have e : msgs.getD (i : Int).toNat [] = msgs[i] := by simp [hil]
      rw [e] at a3
      have h0 := hr msgs[i] (List.getElem_mem hil)
      obtain ⟨pb, ub, b1, b2, b3⟩ := a3.slice .i64 (i := (0 : Int)) (by omega) (by omega) (ti := ty52) rfl
      refine oV_eq a1 (oV_eq (vLoad_mono h.le a2) (oV_eq b1 (oV_eq (vLoad_mono h.le b2) ?_)))
      refine h.appB (Fi := fun b => blkOf v = some b) b3 (by rw [List.length_take]; omega) (fun b hb => hb) fun v' K' Fi' c1 c2 c3 c4 c5 => oV_eq (vInt_add _ _ _) ?_
      rw [wrap_i64 (by omega) (by omega)]
      refine ih (i + 1) v' K' (by omega) (by omega) ?_
      rw [List.take_succ_eq_append_getElem (by omega)]
      have e2 : (castL msgs)[i]'(by omega) = msgs[i].getD (0 : Int).toNat [] := by simp [castL]
      rw [e2]
      exact c1
  exact key _ 0 _ H rfl (by omega) (by rw [List.take_zero]; exact Rw.nil H)
theorem hone_new {H : Heap} {i : Nat} {c : Blk} (hi : H i = none) : New H (hins H i c) (hone i c) := ⟨Le.ins _ hi, hone_le (hins_self _ _ _), fun b hb => by
  unfold hone at hb
  split at hb
  · subst_vars; exact hi
  · exact absurd rfl hb⟩
def stepV (s : Scn) (rd : Int) (cast : Bool) (msgs : List (List (List Int))) (views : List (List Ev)) : List (List Ev) :=
  if cast then castV rd (applyB s rd (castL msgs) s.devs.length) views.length views views.length else sendV rd (applyM s rd msgs s.devs.length) views.length views views.length
theorem stepV_len (s : Scn) (rd : Int) (cast : Bool) (msgs : List (List (List Int))) (views : List (List Ev)) : (stepV s rd cast msgs views).length = views.length := by
  unfold stepV
  split
  · rw [castV_len]
  · rw [sendV_len]
theorem Few.step {views : List (List Ev)} {B : Nat} (h : Few views B) (s : Scn) (rd : Int) (cast : Bool) (msgs : List (List (List Int))) (hl : views.length ≤ 13) : Few (stepV s rd cast msgs views) (B + 169) := by
  have hm : views.length * views.length ≤ 13 * 13 := Nat.mul_le_mul hl hl
  unfold stepV
  split
  · exact (h.cast _ _ _ _).mono (by omega)
  · exact (h.send _ _ _ _).mono (by omega)
section
variable {R H : Heap} {F G : Nat → Prop} {jn jm : Nat} {s : Scn} {cv dv tv t1 t2 mv : Value} {rd : Int} {views : List (List Ev)} {msgs : List (List (List Int))}
theorem round_spec {B : Nat} {cast : Bool} (hP : Pair R F G H jn jm s cv dv tv t1 t2 rd views) (hV : ScnV s) (hm : Sl (eSlice (eSlice (eInt .u64))) R mv msgs) (hM : MsgsM s.P s.N msgs) (hvl : (views.length : Int) = s.N) (hB : Few views B) (hB2 : B ≤ 900000) (hr0 : 0 ≤ rd) (hr1 : rd ≤ 1000000) :
    RCalls Tryd.prog 15 [ptrTo jn, ptrTo jm, .agg #[.bool cast, mv]] H (Ret fun v H' => v = .bool true ∧ ∃ R' F' G', Le R R' ∧ Pair R' F' G' H' jn jm s cv dv tv t1 t2 (rd + 1) (stepV s rd cast msgs views)) := by
  obtain ⟨hp, hn4, hn13, _⟩ := hV.par
  have hml := hM.len
  have hr : ∀ row ∈ msgs, 0 < row.length := fun row hrow => by have := (hM.rows row hrow).len; omega
  apply call15
  unfold m15
  show oNew [.bool cast, mv] 2 46 H _
  intro i hi
  have hN := hone_new (c := .cells [.bool cast, mv] 2 46 true) hi
  have hP1 := hP.news hN
  have hRi : (hun R (hone i (.cells [.bool cast, mv] 2 46 true))) i = some (.cells [.bool cast, mv] 2 46 true) := by
    have : R i = none := none_le hP.n.le hi
    simp [hun, this, hone]
  have hlR : Le R (hun R (hone i (.cells [.bool cast, mv] 2 46 true))) := hun_left _ _
  have hm1 := hm.mono hlR
  generalize hun R (hone i (.cells [.bool cast, mv] 2 46 true)) = R1 at hP1 hRi hlR hm1
  generalize hins H i (.cells [.bool cast, mv] 2 46 true) = H1 at hP1
  have ld0 : vLoad ty4 (.pointer (some ⟨i, 0, none⟩)) R1 = some (.bool cast) := by simp only [vLoad, hRi]; rfl
  have ld1 : vLoad ty44 (.pointer (some ⟨i, 1, none⟩)) R1 = some mv := by simp only [vLoad, hRi]; rfl
  refine oV_eq (vField_to _ _) (oV_eq (vLoad_mono hP1.n.le ld0) ?_)
  unfold stepV
  cases cast with
  | true =>
    rw [if_pos rfl]
    refine condK_true (oV_eq (vField_to _ _) (oV_eq (vLoad_mono hP1.n.le ld1) (oV_eq (vField_to _ _) (oV_eq (vLoad_mono hP1.n.le ld1) ?_))))
    refine oRC_frame (broadcasts_spec hm1 hr (by omega)) hP1.n.le fun v1 R2 H2 hq hl2 h3 h4 => ?_
    obtain ⟨lR2, hv1⟩ := hq
    obtain ⟨hP2, _⟩ := hP1.framed lR2 hl2 h3 h4
    refine ⟨vLoad_mono (lR2.trans hl2) ld1, ?_⟩
    refine oRC_ret (cast_spec hP2.n hV hv1 (castL_msgs hM) hvl hB hB2 hr0 hr1) fun v2 H3 hv => ?_
    obtain ⟨R3, F3, lR3, fr3, n3, sl3, w3, o3⟩ := hv
    obtain ⟨m3, dj3⟩ := hP2.m.other hP2.dj lR3 fr3 n3.le w3 o3
    have l13 := lR2.trans lR3
    refine ⟨vLoad_mono (l13.trans n3.le) ld1, ?_⟩
    refine oRC_frame (broadcasts_spec (hm1.mono l13) hr (by omega)) n3.le fun v3 R4 H4 hq hl4 h5 h6 => ?_
    obtain ⟨lR4, hv3⟩ := hq
    obtain ⟨n4, _⟩ := n3.framed lR4 hl4 h5 h6
    obtain ⟨m4, _⟩ := m3.framed lR4 hl4 h5 h6
    refine oRC_ret (rcast_spec m4 hV hv3 (castL_msgs hM) hvl hB hB2 hr0 hr1) fun v4 H5 hv => ?_
    obtain ⟨R5, G5, lR5, fr5, m5, sl5, w5, o5⟩ := hv
    obtain ⟨n5, dj5⟩ := n4.other (F := G) (jn := jm) (fun b hb hF => dj3 b hF hb) lR5 fr5 m5.le w5 o5
    have l35 := lR4.trans lR5
    refine oRC_val (lists_spec ((sl3.mono l35).mono m5.le) (sl5.mono m5.le)) ?_
    exact ⟨rfl, R5, F3, G5, (hlR.trans l13).trans l35, n5, m5, fun b hb hF => dj5 b hF hb⟩
  | false =>
    rw [if_neg (by simp)]
    refine condK_false (oV_eq (vField_to _ _) (oV_eq (vLoad_mono hP1.n.le ld1) (oV_eq (vField_to _ _) (oV_eq (vLoad_mono hP1.n.le ld1) ?_))))
    refine oRC_ret (send_spec hP1.n hV hm1 hM hvl hB hB2 hr0 hr1) fun v2 H3 hv => ?_
    obtain ⟨R3, F3, lR3, fr3, n3, sl3, w3, o3⟩ := hv
    obtain ⟨m3, dj3⟩ := hP1.m.other hP1.dj lR3 fr3 n3.le w3 o3
    refine ⟨vLoad_mono (lR3.trans n3.le) ld1, ?_⟩
    refine oRC_ret (rsend_spec m3 hV (hm1.mono lR3) hM hvl hB hB2 hr0 hr1) fun v4 H5 hv => ?_
    obtain ⟨R5, G5, lR5, fr5, m5, sl5, w5, o5⟩ := hv
    obtain ⟨n5, dj5⟩ := n3.other (F := G) (jn := jm) (fun b hb hF => dj3 b hF hb) lR5 fr5 m5.le w5 o5
    have ha := (sl3.mono lR5).mono m5.le
    have hb := sl5.mono m5.le
    have hmx := ha.max
    generalize recv (applyM s rd msgs s.devs.length) views.length = got at ha hb hmx
    refine oV_eq ha.len (oV_eq hb.len (oV_eq (vInt_neq _ _ _) ?_))
    rw [decide_eq_false (by simp)]
    refine condK_false ?_
    unfold m15_2
    have key : ∀ (d k : Nat), got.length - k = d → k ≤ got.length → L15_3 v2 v4 (.int .i64 k) H5 (fun H_40 => m15_1 H_40 (Ret fun v H' => v = .bool true ∧ ∃ R' F' G', Le R R' ∧ Pair R' F' G' H' jn jm s cv dv tv t1 t2 (rd + 1) (sendV rd (applyM s rd msgs s.devs.length) views.length views views.length))) (Ret fun v H' => v = .bool true ∧ ∃ R' F' G', Le R R' ∧ Pair R' F' G' H' jn jm s cv dv tv t1 t2 (rd + 1) (sendV rd (applyM s rd msgs s.devs.length) views.length views views.length)) := by
      intro d
      induction d with
      | zero =>
        intro k hd hk
        apply L15_3_round
        unfold m15_4
        refine oV_eq ha.len (oV_eq (vInt_lss _ _ _) (condK_dec (fun hlt => absurd hlt (by omega)) (fun _ => ?_)))
        unfold m15_1
        exact ⟨rfl, R5, F3, G5, (hlR.trans lR3).trans lR5, n5, m5, fun b hb hF => dj5 b hF hb⟩
      | succ d ih =>
        intro k hd hk
        apply L15_3_round
        unfold m15_4
        refine oV_eq ha.len (oV_eq (vInt_lss _ _ _) (condK_dec (fun hlt => ?_) (fun hlt => absurd (by omega) hlt)))
        obtain ⟨pa, ua, a1, a2, a3⟩ := ha.slice .i64 (i := (k : Int)) (by omega) (by omega) (ti := ty27) rfl
        obtain ⟨pb, ub, b1, b2, b3⟩ := hb.slice .i64 (i := (k : Int)) (by omega) (by omega) (ti := ty27) rfl
        refine oV_eq a1 (oV_eq a2 (oV_eq b1 (oV_eq b2 (oRC_val (lists_spec a3 b3) (oV_eq (v := .bool false) rfl (condK_false (oV_eq (vInt_add _ _ _) ?_)))))))
        rw [wrap_i64 (by omega) (by omega)]
        exact ih (k + 1) (by omega) (by omega)
    exact key _ 0 rfl (by omega)
end
/-! ### Which are let in -/
def Sound (P : Prop) (H : Heap) : Ending → Heap → Prop := Ret fun v H' => Le H H' ∧ ∃ b : Bool, v = .bool b ∧ (b = true → P)
theorem sound_no {P : Prop} {H H' : Heap} (hl : Le H H') : Sound P H (.returned (.bool false)) H' := ⟨hl, false, rfl, fun h => by cases h⟩
theorem sound_yes {P : Prop} {H H' : Heap} (hl : Le H H') (h : P) : Sound P H (.returned (.bool true)) H' := ⟨hl, true, rfl, fun _ => h⟩
section
variable {H : Heap} {v : Value} {rows : List (List Int)} {p most : Int}
theorem gV_F {a b : Option Value} {v : Value} (h : a = some v) : gV (.bool false) false a b = some v := h
theorem gV_T {a b : Option Value} {v : Value} (h : a = some v) : gV (.bool true) true a b = some v := h
theorem gV_skipF {a : Option Value} (v : Value) : gV (.bool true) false a (some v) = some v := rfl
theorem gV_skipT {a : Option Value} (v : Value) : gV (.bool false) true a (some v) = some v := rfl
theorem pick_T (a b : Value) : vPick (.bool true) a b = some a := rfl
theorem pick_F (a b : Value) : vPick (.bool false) a b = some b := rfl
theorem i64_add {a b : Int} (h0 : -9223372036854775808 ≤ a + b) (h1 : a + b ≤ 9223372036854775807) : vInt .add (.int .i64 a) (.int .i64 b) = some (.int .i64 (a + b)) := by rw [vInt_add, wrap_i64 h0 h1]
theorem i64_sub {a b : Int} (h0 : -9223372036854775808 ≤ a - b) (h1 : a - b ≤ 9223372036854775807) : vInt .sub (.int .i64 a) (.int .i64 b) = some (.int .i64 (a - b)) := by rw [vInt_sub, wrap_i64 h0 h1]
theorem Sl.row {α : Type} {e : El α} {H : Heap} {v : Value} {xs : List (List α)} (h : Sl (eSlice e) H v xs) {i : Nat} (hi : i < xs.length) {ti : TI} (ht : ti.agg = false) : ∃ p u, vIdxS 1 v (.int .i64 i) = some p ∧ vLoad ti p H = some u ∧ Sl e H u xs[i] := by
  obtain ⟨p, u, h1, h2, h3⟩ := h.slice .i64 (i := (i : Int)) (by omega) (by omega) ht
  have e : xs.getD (i : Int).toNat [] = xs[i] := by simp [hi]
  rw [e] at h3
  exact ⟨p, u, h1, h2, h3⟩
theorem Sl.word {k : IntKind} {H : Heap} {v : Value} {xs : List Int} (h : Sl (eInt k) H v xs) {i : Nat} (hi : i < xs.length) {ti : TI} (ht : ti.agg = false) : ∃ p, vIdxS 1 v (.int .i64 i) = some p ∧ vLoad ti p H = some (.int k xs[i]) := by
  obtain ⟨p, h1, h2⟩ := h.int .i64 (i := (i : Int)) (by omega) (by omega) ht
  have e : xs.getD (i : Int).toNat 0 = xs[i] := by simp [hi]
  rw [e] at h2
  exact ⟨p, h1, h2⟩
theorem all_take {α : Type} {P : α → Prop} {xs : List α} {k : Nat} (hk : k < xs.length) (h : ∀ x ∈ xs.take k, P x) (h1 : P xs[k]) : ∀ x ∈ xs.take (k + 1), P x := fun x hx => by
  rw [List.take_succ_eq_append_getElem hk] at hx
  rcases List.mem_append.1 hx with hx | hx
  · exact h x hx
  · rw [List.mem_singleton.1 hx]; exact h1
section
variable {kx0 : Heap → Prop} {kn kx1 : Value → Value → Value → Value → Heap → Prop} {Q : Ending → Heap → Prop}
theorem below_in (hv : Sl (eSlice (eInt .u64)) H v rows) {i : Nat} (hil : i < rows.length) (hk : (∀ x ∈ rows[i], x < p) → kn (.int .u64 p) v (.int .i64 most) (.int .i64 i) H) (hq : Q (.returned (.bool false)) H) :
    ∀ (d k : Nat), rows[i].length - k = d → k ≤ rows[i].length → (∀ x ∈ rows[i].take k, x < p) → L51_8 (.int .u64 p) v (.int .i64 most) (.int .i64 i) (.int .i64 k) H kn kx1 kx0 Q := by
  obtain ⟨pt, u, a1, a2, a3⟩ := hv.row hil (ti := ty52) rfl
  have hm3 := a3.max
  intro d
  induction d with
  | zero =>
    intro k hd hk2 ha
    apply L51_8_round
    unfold m51_9
    (repeat (first | refine oV_eq (a1) ?_ | refine oV_eq (a2) ?_ | refine oV_eq (a3.len) ?_ | refine oV_eq (vField_to _ _) ?_ | refine oV_eq (vField_ptr _ _ _) ?_ | refine oV_eq (vNil_to _) ?_ | refine oV_eq (vNil_ptr _) ?_ | refine oV_eq (vInt_eql _ _ _) ?_ | refine oV_eq (vInt_neq _ _ _) ?_ | refine oV_eq (vInt_lss _ _ _) ?_ | refine oV_eq (vInt_leq _ _ _) ?_ | refine oV_eq (vInt_gtr _ _ _) ?_ | refine oV_eq (vInt_geq _ _ _) ?_ | refine oV_eq (i64_add (by omega) (by omega)) ?_ | refine oV_eq (i64_sub (by omega) (by omega)) ?_ | refine oV_eq (vUn_not _) ?_ | refine oV_eq (vLen_slice _ _ _) ?_ | refine oV_eq (vConv_int _ _ _) ?_ | refine oV_eq (gV_F (a1)) ?_ | refine oV_eq (gV_F (a2)) ?_ | refine oV_eq (gV_F (a3.len)) ?_ | refine oV_eq (gV_F (vField_to _ _)) ?_ | refine oV_eq (gV_F (vField_ptr _ _ _)) ?_ | refine oV_eq (gV_F (vNil_to _)) ?_ | refine oV_eq (gV_F (vNil_ptr _)) ?_ | refine oV_eq (gV_F (vInt_eql _ _ _)) ?_ | refine oV_eq (gV_F (vInt_neq _ _ _)) ?_ | refine oV_eq (gV_F (vInt_lss _ _ _)) ?_ | refine oV_eq (gV_F (vInt_leq _ _ _)) ?_ | refine oV_eq (gV_F (vInt_gtr _ _ _)) ?_ | refine oV_eq (gV_F (vInt_geq _ _ _)) ?_ | refine oV_eq (gV_F (i64_add (by omega) (by omega))) ?_ | refine oV_eq (gV_F (i64_sub (by omega) (by omega))) ?_ | refine oV_eq (gV_F (vUn_not _)) ?_ | refine oV_eq (gV_F (vLen_slice _ _ _)) ?_ | refine oV_eq (gV_F (vConv_int _ _ _)) ?_ | refine oV_eq (gV_T (a1)) ?_ | refine oV_eq (gV_T (a2)) ?_ | refine oV_eq (gV_T (a3.len)) ?_ | refine oV_eq (gV_T (vField_to _ _)) ?_ | refine oV_eq (gV_T (vField_ptr _ _ _)) ?_ | refine oV_eq (gV_T (vNil_to _)) ?_ | refine oV_eq (gV_T (vNil_ptr _)) ?_ | refine oV_eq (gV_T (vInt_eql _ _ _)) ?_ | refine oV_eq (gV_T (vInt_neq _ _ _)) ?_ | refine oV_eq (gV_T (vInt_lss _ _ _)) ?_ | refine oV_eq (gV_T (vInt_leq _ _ _)) ?_ | refine oV_eq (gV_T (vInt_gtr _ _ _)) ?_ | refine oV_eq (gV_T (vInt_geq _ _ _)) ?_ | refine oV_eq (gV_T (i64_add (by omega) (by omega))) ?_ | refine oV_eq (gV_T (i64_sub (by omega) (by omega))) ?_ | refine oV_eq (gV_T (vUn_not _)) ?_ | refine oV_eq (gV_T (vLen_slice _ _ _)) ?_ | refine oV_eq (gV_T (vConv_int _ _ _)) ?_ | refine oV_eq (gV_skipF _) ?_ | refine oV_eq (gV_skipT _) ?_ | refine oV_eq (pick_T _ _) ?_ | refine oV_eq (pick_F _ _) ?_ | refine oV_eq (gV_F rfl) ?_ | refine oV_eq (gV_T rfl) ?_))
    refine condK_dec (fun hlt => absurd hlt (by omega)) (fun _ => hk ?_)
    rwa [List.take_of_length_le (by omega)] at ha
  | succ d ih =>
    intro k hd hk2 ha
    apply L51_8_round
    unfold m51_9
    (repeat (first | refine oV_eq (a1) ?_ | refine oV_eq (a2) ?_ | refine oV_eq (a3.len) ?_ | refine oV_eq (vField_to _ _) ?_ | refine oV_eq (vField_ptr _ _ _) ?_ | refine oV_eq (vNil_to _) ?_ | refine oV_eq (vNil_ptr _) ?_ | refine oV_eq (vInt_eql _ _ _) ?_ | refine oV_eq (vInt_neq _ _ _) ?_ | refine oV_eq (vInt_lss _ _ _) ?_ | refine oV_eq (vInt_leq _ _ _) ?_ | refine oV_eq (vInt_gtr _ _ _) ?_ | refine oV_eq (vInt_geq _ _ _) ?_ | refine oV_eq (i64_add (by omega) (by omega)) ?_ | refine oV_eq (i64_sub (by omega) (by omega)) ?_ | refine oV_eq (vUn_not _) ?_ | refine oV_eq (vLen_slice _ _ _) ?_ | refine oV_eq (vConv_int _ _ _) ?_ | refine oV_eq (gV_F (a1)) ?_ | refine oV_eq (gV_F (a2)) ?_ | refine oV_eq (gV_F (a3.len)) ?_ | refine oV_eq (gV_F (vField_to _ _)) ?_ | refine oV_eq (gV_F (vField_ptr _ _ _)) ?_ | refine oV_eq (gV_F (vNil_to _)) ?_ | refine oV_eq (gV_F (vNil_ptr _)) ?_ | refine oV_eq (gV_F (vInt_eql _ _ _)) ?_ | refine oV_eq (gV_F (vInt_neq _ _ _)) ?_ | refine oV_eq (gV_F (vInt_lss _ _ _)) ?_ | refine oV_eq (gV_F (vInt_leq _ _ _)) ?_ | refine oV_eq (gV_F (vInt_gtr _ _ _)) ?_ | refine oV_eq (gV_F (vInt_geq _ _ _)) ?_ | refine oV_eq (gV_F (i64_add (by omega) (by omega))) ?_ | refine oV_eq (gV_F (i64_sub (by omega) (by omega))) ?_ | refine oV_eq (gV_F (vUn_not _)) ?_ | refine oV_eq (gV_F (vLen_slice _ _ _)) ?_ | refine oV_eq (gV_F (vConv_int _ _ _)) ?_ | refine oV_eq (gV_T (a1)) ?_ | refine oV_eq (gV_T (a2)) ?_ | refine oV_eq (gV_T (a3.len)) ?_ | refine oV_eq (gV_T (vField_to _ _)) ?_ | refine oV_eq (gV_T (vField_ptr _ _ _)) ?_ | refine oV_eq (gV_T (vNil_to _)) ?_ | refine oV_eq (gV_T (vNil_ptr _)) ?_ | refine oV_eq (gV_T (vInt_eql _ _ _)) ?_ | refine oV_eq (gV_T (vInt_neq _ _ _)) ?_ | refine oV_eq (gV_T (vInt_lss _ _ _)) ?_ | refine oV_eq (gV_T (vInt_leq _ _ _)) ?_ | refine oV_eq (gV_T (vInt_gtr _ _ _)) ?_ | refine oV_eq (gV_T (vInt_geq _ _ _)) ?_ | refine oV_eq (gV_T (i64_add (by omega) (by omega))) ?_ | refine oV_eq (gV_T (i64_sub (by omega) (by omega))) ?_ | refine oV_eq (gV_T (vUn_not _)) ?_ | refine oV_eq (gV_T (vLen_slice _ _ _)) ?_ | refine oV_eq (gV_T (vConv_int _ _ _)) ?_ | refine oV_eq (gV_skipF _) ?_ | refine oV_eq (gV_skipT _) ?_ | refine oV_eq (pick_T _ _) ?_ | refine oV_eq (pick_F _ _) ?_ | refine oV_eq (gV_F rfl) ?_ | refine oV_eq (gV_T rfl) ?_))
    refine condK_dec (fun hlt => ?_) (fun hlt => absurd (by omega) hlt)
    obtain ⟨pb, b1, b2⟩ := a3.word (i := k) (by omega) (ti := ty22) rfl
    (repeat (first | refine oV_eq (a1) ?_ | refine oV_eq (a2) ?_ | refine oV_eq (b1) ?_ | refine oV_eq (b2) ?_ | refine oV_eq (vField_to _ _) ?_ | refine oV_eq (vField_ptr _ _ _) ?_ | refine oV_eq (vNil_to _) ?_ | refine oV_eq (vNil_ptr _) ?_ | refine oV_eq (vInt_eql _ _ _) ?_ | refine oV_eq (vInt_neq _ _ _) ?_ | refine oV_eq (vInt_lss _ _ _) ?_ | refine oV_eq (vInt_leq _ _ _) ?_ | refine oV_eq (vInt_gtr _ _ _) ?_ | refine oV_eq (vInt_geq _ _ _) ?_ | refine oV_eq (i64_add (by omega) (by omega)) ?_ | refine oV_eq (i64_sub (by omega) (by omega)) ?_ | refine oV_eq (vUn_not _) ?_ | refine oV_eq (vLen_slice _ _ _) ?_ | refine oV_eq (vConv_int _ _ _) ?_ | refine oV_eq (gV_F (a1)) ?_ | refine oV_eq (gV_F (a2)) ?_ | refine oV_eq (gV_F (b1)) ?_ | refine oV_eq (gV_F (b2)) ?_ | refine oV_eq (gV_F (vField_to _ _)) ?_ | refine oV_eq (gV_F (vField_ptr _ _ _)) ?_ | refine oV_eq (gV_F (vNil_to _)) ?_ | refine oV_eq (gV_F (vNil_ptr _)) ?_ | refine oV_eq (gV_F (vInt_eql _ _ _)) ?_ | refine oV_eq (gV_F (vInt_neq _ _ _)) ?_ | refine oV_eq (gV_F (vInt_lss _ _ _)) ?_ | refine oV_eq (gV_F (vInt_leq _ _ _)) ?_ | refine oV_eq (gV_F (vInt_gtr _ _ _)) ?_ | refine oV_eq (gV_F (vInt_geq _ _ _)) ?_ | refine oV_eq (gV_F (i64_add (by omega) (by omega))) ?_ | refine oV_eq (gV_F (i64_sub (by omega) (by omega))) ?_ | refine oV_eq (gV_F (vUn_not _)) ?_ | refine oV_eq (gV_F (vLen_slice _ _ _)) ?_ | refine oV_eq (gV_F (vConv_int _ _ _)) ?_ | refine oV_eq (gV_T (a1)) ?_ | refine oV_eq (gV_T (a2)) ?_ | refine oV_eq (gV_T (b1)) ?_ | refine oV_eq (gV_T (b2)) ?_ | refine oV_eq (gV_T (vField_to _ _)) ?_ | refine oV_eq (gV_T (vField_ptr _ _ _)) ?_ | refine oV_eq (gV_T (vNil_to _)) ?_ | refine oV_eq (gV_T (vNil_ptr _)) ?_ | refine oV_eq (gV_T (vInt_eql _ _ _)) ?_ | refine oV_eq (gV_T (vInt_neq _ _ _)) ?_ | refine oV_eq (gV_T (vInt_lss _ _ _)) ?_ | refine oV_eq (gV_T (vInt_leq _ _ _)) ?_ | refine oV_eq (gV_T (vInt_gtr _ _ _)) ?_ | refine oV_eq (gV_T (vInt_geq _ _ _)) ?_ | refine oV_eq (gV_T (i64_add (by omega) (by omega))) ?_ | refine oV_eq (gV_T (i64_sub (by omega) (by omega))) ?_ | refine oV_eq (gV_T (vUn_not _)) ?_ | refine oV_eq (gV_T (vLen_slice _ _ _)) ?_ | refine oV_eq (gV_T (vConv_int _ _ _)) ?_ | refine oV_eq (gV_skipF _) ?_ | refine oV_eq (gV_skipT _) ?_ | refine oV_eq (pick_T _ _) ?_ | refine oV_eq (pick_F _ _) ?_ | refine oV_eq (gV_F rfl) ?_ | refine oV_eq (gV_T rfl) ?_))
    refine condK_dec (fun _ => hq) (fun c => ?_)
    (repeat (first | refine oV_eq (vField_to _ _) ?_ | refine oV_eq (vField_ptr _ _ _) ?_ | refine oV_eq (vNil_to _) ?_ | refine oV_eq (vNil_ptr _) ?_ | refine oV_eq (vInt_eql _ _ _) ?_ | refine oV_eq (vInt_neq _ _ _) ?_ | refine oV_eq (vInt_lss _ _ _) ?_ | refine oV_eq (vInt_leq _ _ _) ?_ | refine oV_eq (vInt_gtr _ _ _) ?_ | refine oV_eq (vInt_geq _ _ _) ?_ | refine oV_eq (i64_add (by omega) (by omega)) ?_ | refine oV_eq (i64_sub (by omega) (by omega)) ?_ | refine oV_eq (vUn_not _) ?_ | refine oV_eq (vLen_slice _ _ _) ?_ | refine oV_eq (vConv_int _ _ _) ?_ | refine oV_eq (gV_F (vField_to _ _)) ?_ | refine oV_eq (gV_F (vField_ptr _ _ _)) ?_ | refine oV_eq (gV_F (vNil_to _)) ?_ | refine oV_eq (gV_F (vNil_ptr _)) ?_ | refine oV_eq (gV_F (vInt_eql _ _ _)) ?_ | refine oV_eq (gV_F (vInt_neq _ _ _)) ?_ | refine oV_eq (gV_F (vInt_lss _ _ _)) ?_ | refine oV_eq (gV_F (vInt_leq _ _ _)) ?_ | refine oV_eq (gV_F (vInt_gtr _ _ _)) ?_ | refine oV_eq (gV_F (vInt_geq _ _ _)) ?_ | refine oV_eq (gV_F (i64_add (by omega) (by omega))) ?_ | refine oV_eq (gV_F (i64_sub (by omega) (by omega))) ?_ | refine oV_eq (gV_F (vUn_not _)) ?_ | refine oV_eq (gV_F (vLen_slice _ _ _)) ?_ | refine oV_eq (gV_F (vConv_int _ _ _)) ?_ | refine oV_eq (gV_T (vField_to _ _)) ?_ | refine oV_eq (gV_T (vField_ptr _ _ _)) ?_ | refine oV_eq (gV_T (vNil_to _)) ?_ | refine oV_eq (gV_T (vNil_ptr _)) ?_ | refine oV_eq (gV_T (vInt_eql _ _ _)) ?_ | refine oV_eq (gV_T (vInt_neq _ _ _)) ?_ | refine oV_eq (gV_T (vInt_lss _ _ _)) ?_ | refine oV_eq (gV_T (vInt_leq _ _ _)) ?_ | refine oV_eq (gV_T (vInt_gtr _ _ _)) ?_ | refine oV_eq (gV_T (vInt_geq _ _ _)) ?_ | refine oV_eq (gV_T (i64_add (by omega) (by omega))) ?_ | refine oV_eq (gV_T (i64_sub (by omega) (by omega))) ?_ | refine oV_eq (gV_T (vUn_not _)) ?_ | refine oV_eq (gV_T (vLen_slice _ _ _)) ?_ | refine oV_eq (gV_T (vConv_int _ _ _)) ?_ | refine oV_eq (gV_skipF _) ?_ | refine oV_eq (gV_skipT _) ?_ | refine oV_eq (pick_T _ _) ?_ | refine oV_eq (pick_F _ _) ?_ | refine oV_eq (gV_F rfl) ?_ | refine oV_eq (gV_T rfl) ?_))
    exact ih (k + 1) (by omega) (by omega) (all_take (by omega) ha (by omega))
end
theorem rbelow_spec (hv : Sl (eSlice (eInt .u64)) H v rows) : RCalls Tryd.prog 51 [.int .u64 p, v, .int .i64 most] H (Sound (∀ r ∈ rows, (r.length : Int) ≤ most ∧ ∀ x ∈ r, x < p) H) := by
  have hmx := hv.max
  apply call51
  unfold m51 m51_2
  suffices key : ∀ (d i : Nat), rows.length - i = d → i ≤ rows.length → (∀ r ∈ rows.take i, (r.length : Int) ≤ most ∧ ∀ x ∈ r, x < p) → L51_3 (.int .u64 p) v (.int .i64 most) (.int .i64 i) H _ _ from key _ 0 rfl (by omega) (by simp)
  intro d
  induction d with
  | zero =>
    intro i hd hi ha
    apply L51_3_round
    unfold m51_4
    (repeat (first | refine oV_eq (hv.len) ?_ | refine oV_eq (vField_to _ _) ?_ | refine oV_eq (vField_ptr _ _ _) ?_ | refine oV_eq (vNil_to _) ?_ | refine oV_eq (vNil_ptr _) ?_ | refine oV_eq (vInt_eql _ _ _) ?_ | refine oV_eq (vInt_neq _ _ _) ?_ | refine oV_eq (vInt_lss _ _ _) ?_ | refine oV_eq (vInt_leq _ _ _) ?_ | refine oV_eq (vInt_gtr _ _ _) ?_ | refine oV_eq (vInt_geq _ _ _) ?_ | refine oV_eq (i64_add (by omega) (by omega)) ?_ | refine oV_eq (i64_sub (by omega) (by omega)) ?_ | refine oV_eq (vUn_not _) ?_ | refine oV_eq (vLen_slice _ _ _) ?_ | refine oV_eq (vConv_int _ _ _) ?_ | refine oV_eq (gV_F (hv.len)) ?_ | refine oV_eq (gV_F (vField_to _ _)) ?_ | refine oV_eq (gV_F (vField_ptr _ _ _)) ?_ | refine oV_eq (gV_F (vNil_to _)) ?_ | refine oV_eq (gV_F (vNil_ptr _)) ?_ | refine oV_eq (gV_F (vInt_eql _ _ _)) ?_ | refine oV_eq (gV_F (vInt_neq _ _ _)) ?_ | refine oV_eq (gV_F (vInt_lss _ _ _)) ?_ | refine oV_eq (gV_F (vInt_leq _ _ _)) ?_ | refine oV_eq (gV_F (vInt_gtr _ _ _)) ?_ | refine oV_eq (gV_F (vInt_geq _ _ _)) ?_ | refine oV_eq (gV_F (i64_add (by omega) (by omega))) ?_ | refine oV_eq (gV_F (i64_sub (by omega) (by omega))) ?_ | refine oV_eq (gV_F (vUn_not _)) ?_ | refine oV_eq (gV_F (vLen_slice _ _ _)) ?_ | refine oV_eq (gV_F (vConv_int _ _ _)) ?_ | refine oV_eq (gV_T (hv.len)) ?_ | refine oV_eq (gV_T (vField_to _ _)) ?_ | refine oV_eq (gV_T (vField_ptr _ _ _)) ?_ | refine oV_eq (gV_T (vNil_to _)) ?_ | refine oV_eq (gV_T (vNil_ptr _)) ?_ | refine oV_eq (gV_T (vInt_eql _ _ _)) ?_ | refine oV_eq (gV_T (vInt_neq _ _ _)) ?_ | refine oV_eq (gV_T (vInt_lss _ _ _)) ?_ | refine oV_eq (gV_T (vInt_leq _ _ _)) ?_ | refine oV_eq (gV_T (vInt_gtr _ _ _)) ?_ | refine oV_eq (gV_T (vInt_geq _ _ _)) ?_ | refine oV_eq (gV_T (i64_add (by omega) (by omega))) ?_ | refine oV_eq (gV_T (i64_sub (by omega) (by omega))) ?_ | refine oV_eq (gV_T (vUn_not _)) ?_ | refine oV_eq (gV_T (vLen_slice _ _ _)) ?_ | refine oV_eq (gV_T (vConv_int _ _ _)) ?_ | refine oV_eq (gV_skipF _) ?_ | refine oV_eq (gV_skipT _) ?_ | refine oV_eq (pick_T _ _) ?_ | refine oV_eq (pick_F _ _) ?_ | refine oV_eq (gV_F rfl) ?_ | refine oV_eq (gV_T rfl) ?_))
    refine condK_dec (fun hlt => absurd hlt (by omega)) (fun _ => ?_)
    rw [List.take_of_length_le (by omega)] at ha
    exact sound_yes (Le.refl _) ha
  | succ d ih =>
    intro i hd hi ha
    apply L51_3_round
    unfold m51_4
    (repeat (first | refine oV_eq (hv.len) ?_ | refine oV_eq (vField_to _ _) ?_ | refine oV_eq (vField_ptr _ _ _) ?_ | refine oV_eq (vNil_to _) ?_ | refine oV_eq (vNil_ptr _) ?_ | refine oV_eq (vInt_eql _ _ _) ?_ | refine oV_eq (vInt_neq _ _ _) ?_ | refine oV_eq (vInt_lss _ _ _) ?_ | refine oV_eq (vInt_leq _ _ _) ?_ | refine oV_eq (vInt_gtr _ _ _) ?_ | refine oV_eq (vInt_geq _ _ _) ?_ | refine oV_eq (i64_add (by omega) (by omega)) ?_ | refine oV_eq (i64_sub (by omega) (by omega)) ?_ | refine oV_eq (vUn_not _) ?_ | refine oV_eq (vLen_slice _ _ _) ?_ | refine oV_eq (vConv_int _ _ _) ?_ | refine oV_eq (gV_F (hv.len)) ?_ | refine oV_eq (gV_F (vField_to _ _)) ?_ | refine oV_eq (gV_F (vField_ptr _ _ _)) ?_ | refine oV_eq (gV_F (vNil_to _)) ?_ | refine oV_eq (gV_F (vNil_ptr _)) ?_ | refine oV_eq (gV_F (vInt_eql _ _ _)) ?_ | refine oV_eq (gV_F (vInt_neq _ _ _)) ?_ | refine oV_eq (gV_F (vInt_lss _ _ _)) ?_ | refine oV_eq (gV_F (vInt_leq _ _ _)) ?_ | refine oV_eq (gV_F (vInt_gtr _ _ _)) ?_ | refine oV_eq (gV_F (vInt_geq _ _ _)) ?_ | refine oV_eq (gV_F (i64_add (by omega) (by omega))) ?_ | refine oV_eq (gV_F (i64_sub (by omega) (by omega))) ?_ | refine oV_eq (gV_F (vUn_not _)) ?_ | refine oV_eq (gV_F (vLen_slice _ _ _)) ?_ | refine oV_eq (gV_F (vConv_int _ _ _)) ?_ | refine oV_eq (gV_T (hv.len)) ?_ | refine oV_eq (gV_T (vField_to _ _)) ?_ | refine oV_eq (gV_T (vField_ptr _ _ _)) ?_ | refine oV_eq (gV_T (vNil_to _)) ?_ | refine oV_eq (gV_T (vNil_ptr _)) ?_ | refine oV_eq (gV_T (vInt_eql _ _ _)) ?_ | refine oV_eq (gV_T (vInt_neq _ _ _)) ?_ | refine oV_eq (gV_T (vInt_lss _ _ _)) ?_ | refine oV_eq (gV_T (vInt_leq _ _ _)) ?_ | refine oV_eq (gV_T (vInt_gtr _ _ _)) ?_ | refine oV_eq (gV_T (vInt_geq _ _ _)) ?_ | refine oV_eq (gV_T (i64_add (by omega) (by omega))) ?_ | refine oV_eq (gV_T (i64_sub (by omega) (by omega))) ?_ | refine oV_eq (gV_T (vUn_not _)) ?_ | refine oV_eq (gV_T (vLen_slice _ _ _)) ?_ | refine oV_eq (gV_T (vConv_int _ _ _)) ?_ | refine oV_eq (gV_skipF _) ?_ | refine oV_eq (gV_skipT _) ?_ | refine oV_eq (pick_T _ _) ?_ | refine oV_eq (pick_F _ _) ?_ | refine oV_eq (gV_F rfl) ?_ | refine oV_eq (gV_T rfl) ?_))
    refine condK_dec (fun hlt => ?_) (fun hlt => absurd (by omega) hlt)
    unfold m51_6 m51_7
    have hil : i < rows.length := by omega
    obtain ⟨pt, u, a1, a2, a3⟩ := hv.row hil (ti := ty52) rfl
    (repeat (first | refine oV_eq (a1) ?_ | refine oV_eq (a2) ?_ | refine oV_eq (a3.len) ?_ | refine oV_eq (vField_to _ _) ?_ | refine oV_eq (vField_ptr _ _ _) ?_ | refine oV_eq (vNil_to _) ?_ | refine oV_eq (vNil_ptr _) ?_ | refine oV_eq (vInt_eql _ _ _) ?_ | refine oV_eq (vInt_neq _ _ _) ?_ | refine oV_eq (vInt_lss _ _ _) ?_ | refine oV_eq (vInt_leq _ _ _) ?_ | refine oV_eq (vInt_gtr _ _ _) ?_ | refine oV_eq (vInt_geq _ _ _) ?_ | refine oV_eq (i64_add (by omega) (by omega)) ?_ | refine oV_eq (i64_sub (by omega) (by omega)) ?_ | refine oV_eq (vUn_not _) ?_ | refine oV_eq (vLen_slice _ _ _) ?_ | refine oV_eq (vConv_int _ _ _) ?_ | refine oV_eq (gV_F (a1)) ?_ | refine oV_eq (gV_F (a2)) ?_ | refine oV_eq (gV_F (a3.len)) ?_ | refine oV_eq (gV_F (vField_to _ _)) ?_ | refine oV_eq (gV_F (vField_ptr _ _ _)) ?_ | refine oV_eq (gV_F (vNil_to _)) ?_ | refine oV_eq (gV_F (vNil_ptr _)) ?_ | refine oV_eq (gV_F (vInt_eql _ _ _)) ?_ | refine oV_eq (gV_F (vInt_neq _ _ _)) ?_ | refine oV_eq (gV_F (vInt_lss _ _ _)) ?_ | refine oV_eq (gV_F (vInt_leq _ _ _)) ?_ | refine oV_eq (gV_F (vInt_gtr _ _ _)) ?_ | refine oV_eq (gV_F (vInt_geq _ _ _)) ?_ | refine oV_eq (gV_F (i64_add (by omega) (by omega))) ?_ | refine oV_eq (gV_F (i64_sub (by omega) (by omega))) ?_ | refine oV_eq (gV_F (vUn_not _)) ?_ | refine oV_eq (gV_F (vLen_slice _ _ _)) ?_ | refine oV_eq (gV_F (vConv_int _ _ _)) ?_ | refine oV_eq (gV_T (a1)) ?_ | refine oV_eq (gV_T (a2)) ?_ | refine oV_eq (gV_T (a3.len)) ?_ | refine oV_eq (gV_T (vField_to _ _)) ?_ | refine oV_eq (gV_T (vField_ptr _ _ _)) ?_ | refine oV_eq (gV_T (vNil_to _)) ?_ | refine oV_eq (gV_T (vNil_ptr _)) ?_ | refine oV_eq (gV_T (vInt_eql _ _ _)) ?_ | refine oV_eq (gV_T (vInt_neq _ _ _)) ?_ | refine oV_eq (gV_T (vInt_lss _ _ _)) ?_ | refine oV_eq (gV_T (vInt_leq _ _ _)) ?_ | refine oV_eq (gV_T (vInt_gtr _ _ _)) ?_ | refine oV_eq (gV_T (vInt_geq _ _ _)) ?_ | refine oV_eq (gV_T (i64_add (by omega) (by omega))) ?_ | refine oV_eq (gV_T (i64_sub (by omega) (by omega))) ?_ | refine oV_eq (gV_T (vUn_not _)) ?_ | refine oV_eq (gV_T (vLen_slice _ _ _)) ?_ | refine oV_eq (gV_T (vConv_int _ _ _)) ?_ | refine oV_eq (gV_skipF _) ?_ | refine oV_eq (gV_skipT _) ?_ | refine oV_eq (pick_T _ _) ?_ | refine oV_eq (pick_F _ _) ?_ | refine oV_eq (gV_F rfl) ?_ | refine oV_eq (gV_T rfl) ?_))
    refine condK_dec (fun _ => sound_no (Le.refl _)) (fun c => ?_)
    refine below_in hv hil (fun hx => ?_) (sound_no (Le.refl _)) _ 0 rfl (by omega) (by simp)
    unfold m51_5
    (repeat (first | refine oV_eq (vField_to _ _) ?_ | refine oV_eq (vField_ptr _ _ _) ?_ | refine oV_eq (vNil_to _) ?_ | refine oV_eq (vNil_ptr _) ?_ | refine oV_eq (vInt_eql _ _ _) ?_ | refine oV_eq (vInt_neq _ _ _) ?_ | refine oV_eq (vInt_lss _ _ _) ?_ | refine oV_eq (vInt_leq _ _ _) ?_ | refine oV_eq (vInt_gtr _ _ _) ?_ | refine oV_eq (vInt_geq _ _ _) ?_ | refine oV_eq (i64_add (by omega) (by omega)) ?_ | refine oV_eq (i64_sub (by omega) (by omega)) ?_ | refine oV_eq (vUn_not _) ?_ | refine oV_eq (vLen_slice _ _ _) ?_ | refine oV_eq (vConv_int _ _ _) ?_ | refine oV_eq (gV_F (vField_to _ _)) ?_ | refine oV_eq (gV_F (vField_ptr _ _ _)) ?_ | refine oV_eq (gV_F (vNil_to _)) ?_ | refine oV_eq (gV_F (vNil_ptr _)) ?_ | refine oV_eq (gV_F (vInt_eql _ _ _)) ?_ | refine oV_eq (gV_F (vInt_neq _ _ _)) ?_ | refine oV_eq (gV_F (vInt_lss _ _ _)) ?_ | refine oV_eq (gV_F (vInt_leq _ _ _)) ?_ | refine oV_eq (gV_F (vInt_gtr _ _ _)) ?_ | refine oV_eq (gV_F (vInt_geq _ _ _)) ?_ | refine oV_eq (gV_F (i64_add (by omega) (by omega))) ?_ | refine oV_eq (gV_F (i64_sub (by omega) (by omega))) ?_ | refine oV_eq (gV_F (vUn_not _)) ?_ | refine oV_eq (gV_F (vLen_slice _ _ _)) ?_ | refine oV_eq (gV_F (vConv_int _ _ _)) ?_ | refine oV_eq (gV_T (vField_to _ _)) ?_ | refine oV_eq (gV_T (vField_ptr _ _ _)) ?_ | refine oV_eq (gV_T (vNil_to _)) ?_ | refine oV_eq (gV_T (vNil_ptr _)) ?_ | refine oV_eq (gV_T (vInt_eql _ _ _)) ?_ | refine oV_eq (gV_T (vInt_neq _ _ _)) ?_ | refine oV_eq (gV_T (vInt_lss _ _ _)) ?_ | refine oV_eq (gV_T (vInt_leq _ _ _)) ?_ | refine oV_eq (gV_T (vInt_gtr _ _ _)) ?_ | refine oV_eq (gV_T (vInt_geq _ _ _)) ?_ | refine oV_eq (gV_T (i64_add (by omega) (by omega))) ?_ | refine oV_eq (gV_T (i64_sub (by omega) (by omega))) ?_ | refine oV_eq (gV_T (vUn_not _)) ?_ | refine oV_eq (gV_T (vLen_slice _ _ _)) ?_ | refine oV_eq (gV_T (vConv_int _ _ _)) ?_ | refine oV_eq (gV_skipF _) ?_ | refine oV_eq (gV_skipT _) ?_ | refine oV_eq (pick_T _ _) ?_ | refine oV_eq (pick_F _ _) ?_ | refine oV_eq (gV_F rfl) ?_ | refine oV_eq (gV_T rfl) ?_))
    exact ih (i + 1) (by omega) (by omega) (all_take hil ha ⟨by omega, hx⟩)
end
end Go.Proofs.YtchhpagkdaaglaaDoor.SL
