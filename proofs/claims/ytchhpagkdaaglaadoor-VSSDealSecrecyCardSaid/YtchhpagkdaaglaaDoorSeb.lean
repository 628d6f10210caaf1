/- Part 22 of the proof of LawSe: AdvC AdvM AdvN AdvO Stp NetA Lit ParA, one behind the other. -/
import Derived.Test.YtchhpagkdaaglaaDoorSea
set_option linter.unusedVariables false
set_option linter.unusedSimpArgs false
namespace Go.Proofs.YtchhpagkdaaglaaDoor.SL

section
open Go

theorem gK_TT {A B : Prop} (h : A) : gK (.bool true) true A B := ⟨fun _ => h, fun h => absurd rfl h⟩
theorem gK_FF {A B : Prop} (h : A) : gK (.bool false) false A B := ⟨fun _ => h, fun h => absurd rfl h⟩
theorem gK_TF {A B : Prop} (h : B) : gK (.bool true) false A B := ⟨fun h => (by cases h), fun _ => h⟩
theorem gK_FT {A B : Prop} (h : B) : gK (.bool false) true A B := ⟨fun h => (by cases h), fun _ => h⟩
theorem rows_sl {H : Heap} {t : TypeId} {v : Value} {us : List Value} {xss : List (List Int)} (h : Own 1 t H v xss.length us) (hx : ∀ (j : Nat) (hj : j < xss.length), ∃ u, us[j]? = some u ∧ Sl (eInt .u64) H u xss[j]) : Sl (qXZ (eInt .u64)) H v xss :=
  h.sl (e := qXZ (eInt .u64)) fun i x hi => by
    obtain ⟨hl, rfl⟩ := List.getElem?_eq_some_iff.1 hi
    obtain ⟨u, hu, hs⟩ := hx i hl
    exact ⟨u, one_get _ i u hu, hs⟩
def Rw (R H : Heap) (v : Value) (rows : List (List Int)) : Prop := ∃ us, us.length = rows.length ∧ Grown R H 1 52 v rows.length us ∧ ∀ (j : Nat) u r, us[j]? = some u → rows[j]? = some r → Sl (eInt .u64) R u r
section
variable {R H : Heap} {v : Value} {rows : List (List Int)}
theorem Rw.le (h : Rw R H v rows) : Le R H := by
  obtain ⟨us, h1, h2, h3⟩ := h
  exact h2.1
theorem Rw.grow {K : Heap} (h : Rw R H v rows) (hl : Le H K) : Rw R K v rows := by
  obtain ⟨us, h1, h2, h3⟩ := h
  exact ⟨us, h1, h2.le hl, h3⟩
theorem Rw.news {H' N : Heap} (h : Rw R H v rows) (hN : New H H' N) : Rw (hun R N) H' v rows := by
  obtain ⟨us, h1, h2, h3⟩ := h
  exact ⟨us, h1, h2.news hN, fun j u r hu hr => (h3 j u r hu hr).mono (qNZ _ _)⟩
theorem Rw.fresh {i : Nat} (h : Rw R H v rows) (hi : H i = none) (c : Blk) : Rw (hins R i c) (hins H i c) v rows := by
  obtain ⟨us, h1, h2, h3⟩ := h
  exact ⟨us, h1, h2.fresh hi c, fun j u r hu hr => (h3 j u r hu hr).mono (Le.ins _ (none_le h2.1 hi))⟩
theorem Rw.len (h : Rw R H v rows) : vLen v = some (.int .i64 rows.length) := by
  obtain ⟨us, h1, h2, h3⟩ := h
  exact h2.2.1.len
theorem Rw.sl (h : Rw R H v rows) : Sl (qXZ (eInt .u64)) H v rows := by
  obtain ⟨us, h1, h2, h3⟩ := h
  refine rows_sl h2.2.1 fun j hj => ?_
  have hj' : j < us.length := by omega
  exact ⟨us[j], List.getElem?_eq_getElem hj', (h3 j _ _ (List.getElem?_eq_getElem hj') (List.getElem?_eq_getElem hj)).mono h2.1⟩
theorem Rw.get (h : Rw R H v rows) {j : Nat} (hj : j < rows.length) : ∃ pt u, p1Z 1 v (.int .i64 j) = some pt ∧ qWZ ty52 pt H = some u ∧ Sl (eInt .u64) R u (rows.getD j []) := by
  obtain ⟨us, h1, h2, h3⟩ := h
  obtain ⟨pt, x, g1, g2, g3, g4⟩ := h2.ix .i64 hj
  refine ⟨pt, x, g1, g3 ty52 rfl, ?_⟩
  have : rows.getD j [] = rows[j] := by simp [hj]
  rw [this]
  exact h3 j x rows[j] g2 (List.getElem?_eq_getElem hj)
theorem Rw.put (h : Rw R H v rows) {j : Nat} (hj : j < rows.length) {u : Value} {r : List Int} (hu : Sl (eInt .u64) R u r) : ∃ pt H', p1Z 1 v (.int .i64 j) = some pt ∧ p2Z ty52 pt u H = some H' ∧ Rw R H' v (rows.set j r) := by
  obtain ⟨us, h1, h2, h3⟩ := h
  obtain ⟨pt, x, g1, g2, g3, g4⟩ := h2.ix .i64 hj
  obtain ⟨H', s1, s2, _⟩ := g4 ty52 u rfl rfl hu.one
  refine ⟨pt, H', g1, s1, us.set j u, by simpa using h1, by rw [List.length_set]; exact s2, fun i w z hw hz => ?_⟩
  by_cases c : j = i
  · subst c
    rw [List.getElem?_set_self (by omega)] at hw hz
    cases hw
    cases hz
    exact hu
  · rw [List.getElem?_set_ne c] at hw hz
    exact h3 i w z hw hz
end
theorem done_spec {H : Heap} {s : Scn} {cv dv tv : Value} {d : Dev} {rd : Int} (hb : Sl (eInt .i64) H cv s.bad) : qVZ Tryd.prog 110 [scnVal s cv dv tv, d.val, .int .i64 rd] H (Grow (.bool (decide (d.rd = rd ∧ d.fr ∈ s.bad))) H) := by
  apply call110
  unfold m110
  refine scn_new s cv dv tv fun i1 H1 l1 hs1 => ?_
  refine dev_new d fun i2 H2 l2 hd2 => ?_
  have hs2 := hs1.mono l2
  have l12 := l1.trans l2
  refine qQZ (q1Z _ _) (qQZ hd2.l0 (qQZ (q5Z _ _ _) ?_))
  by_cases c : d.rd = rd
  · rw [decide_eq_true c]
    refine qQZ (v := .pointer (some ⟨i1, 3, none⟩)) rfl (qQZ (v := cv) hs2.c (qQZ (v := .pointer (some ⟨i2, 1, none⟩)) rfl (qQZ (v := .int .i64 d.fr) hd2.l1 ?_)))
    refine gK_TT (oRC_val (contains_spec (hb.mono l12)) ?_)
    refine qQZ (v := .bool (decide (d.fr ∈ s.bad))) rfl ⟨?_, l12⟩
    congr 1
    exact decide_eq_decide.2 ⟨fun h => ⟨c, h⟩, fun h => h.2⟩
  · rw [decide_eq_false c]
    refine gK_FT ?_
    refine qQZ (v := .bool false) rfl ⟨?_, l12⟩
    rw [decide_eq_false fun h => c h.1]
def stepB (s : Scn) (rd : Int) (out rows : List (List Int)) (d : Dev) : List (List Int) :=
  if d.rd = rd ∧ d.fr ∈ s.bad then rows.set (d.fr - 1).toNat (told s.P s.bad d (rows.getD (d.fr - 1).toNat []) (out.getD (d.of_ - 1).toNat [])) else rows
def applyB (s : Scn) (rd : Int) (out : List (List Int)) (i : Nat) : List (List Int) := (s.devs.take i).foldl (stepB s rd out) out
theorem told_said {p : Int} {bad : List Int} {d : Dev} {l : List Int} (h : d.kd ≠ 3) (a b : List Int) : told p bad d l a = told p bad d l b := by
  unfold told
  simp only [if_neg h]
structure Msgs (p : Int) (n : Int) (rows : List (List Int)) : Prop where
  len : (rows.length : Int) = n
  rng : ∀ r ∈ rows, rng p r ∧ r.length ≤ 1000
theorem Msgs.get {p n : Int} {rows : List (List Int)} (h : Msgs p n rows) (j : Nat) : SL.rng p (rows.getD j []) ∧ (rows.getD j []).length ≤ 1000 := by
  rw [List.getD_eq_getElem?_getD]
  cases he : rows[j]? with
  | none => exact ⟨fun x hx => by simp at hx, by simp⟩
  | some r => exact h.rng r (List.mem_of_getElem? he)
theorem stepB_msgs {s : Scn} {rd : Int} {out rows : List (List Int)} {d : Dev} (hp : 0 < s.P) (h : Msgs s.P s.N rows) : Msgs s.P s.N (stepB s rd out rows d) := by
  unfold stepB
  split
  · refine ⟨by rw [List.length_set]; exact h.len, fun r hr => ?_⟩
    rcases List.mem_or_eq_of_mem_set hr with hr | rfl
    · exact h.rng r hr
    · have := h.get (d.fr - 1).toNat
      exact ⟨told_rng hp this.1, Nat.le_trans told_len this.2⟩
  · exact h
theorem applyB_succ {s : Scn} {rd : Int} {out : List (List Int)} {i : Nat} (h : i < s.devs.length) : applyB s rd out (i + 1) = stepB s rd out (applyB s rd out i) s.devs[i] := by
  simp only [applyB, List.take_succ_eq_append_getElem h, List.foldl_append, List.foldl_cons, List.foldl_nil]
theorem applyB_msgs {s : Scn} {rd : Int} {out : List (List Int)} (hp : 0 < s.P) (h : Msgs s.P s.N out) : ∀ i, i ≤ s.devs.length → Msgs s.P s.N (applyB s rd out i)
  | 0, _ => h
  | i + 1, hi => by
    rw [applyB_succ (by omega)]
    exact stepB_msgs hp (applyB_msgs hp h i (by omega))
section
variable {s : Scn} {cv dv tv ov : Value} {rd : Int} {out : List (List Int)}
theorem applyB_loop {R0 : Heap} {i3 : Nat} (hp : Supp s.P) (hok : ScnOk R0 s cv dv tv) (hs : SAt R0 i3 s cv dv tv) (ho : Sl (qXZ (eInt .u64)) R0 ov out) (hm : Msgs s.P s.N out) (hds : ∀ d ∈ s.devs, DevOk s.N d) (hN : s.N ≤ 1000) {kn : Value → Heap → Prop} {Q : Ending → Heap → Prop}
    (hk : ∀ v R H, Le R0 R → Rw R H v (applyB s rd out s.devs.length) → kn v H) :
    ∀ (n i : Nat) (R H : Heap) (v : Value), s.devs.length - i = n → i ≤ s.devs.length → Le R0 R → Rw R H v (applyB s rd out i) → L81_3 (.int .i64 rd) ov (qTZ i3) v dv (.int .i64 s.devs.length) (.int .i64 i) H kn Q := by
  have hpp := hp.pos
  have hdm := hok.devs.max
  intro n
  induction n with
  | zero =>
    intro i R H v hd hi h0 hR
    apply L81_3_round
    unfold m81_4
    refine qQZ (q7Z _ _ _) (qJZ (fun hlt => absurd hlt (by omega)) (fun _ => ?_))
    have : i = s.devs.length := by omega
    subst this
    exact hk v R H h0 hR
  | succ n ih =>
    intro i R H v hd hi h0 hR
    apply L81_3_round
    unfold m81_4
    refine qQZ (q7Z _ _ _) (qJZ (fun hlt => ?_) (fun hlt => absurd (by omega) hlt))
    have hil : i < s.devs.length := by omega
    have hms := applyB_msgs (rd := rd) (show 0 < s.P by omega) hm i (by omega)
    have next := fun R' H' v' => ih (i + 1) R' H' v' (by omega) (by omega)
    rw [applyB_succ hil] at next
    have hdok := hds _ (List.getElem_mem hil)
    have w1 := pBZ (show -9223372036854775808 ≤ (i : Int) + 1 by omega) (by omega)
    obtain ⟨q, f1, f2⟩ := (hok.devs.mono (h0.trans hR.le)).dev hil
    refine qQZ f1 (qQZ f2 (dev_local _ fun x H1 l1 hdx => ?_))
    generalize s.devs[i] = d at hdx next hdok ⊢
    replace hR := hR.grow l1
    have hsH := hs.mono (h0.trans hR.le)
    refine qQZ hsH.all (qQZ hdx.all (oRC_grow (done_spec (hok.bad.mono (h0.trans hR.le))) fun H2 l2 => ?_))
    replace hR := hR.grow l2
    replace hdx := hdx.mono l2
    replace hsH := hsH.mono l2
    by_cases c : d.rd = rd ∧ d.fr ∈ s.bad
    rotate_left
    · rw [decide_eq_false c]
      refine qQZ rfl (qMZ (qQZ (vInt_add _ _ _) ?_))
      rw [w1]
      simp only [stepB, if_neg c] at next
      exact next R H2 v h0 hR
    rw [decide_eq_true c]
    simp only [stepB, if_pos c] at next
    refine qQZ rfl (qLZ ?_)
    have hf1 := hdok.fr1
    have hf2 := hdok.fr2
    have hlen := hms.len
    have wf : IntKind.i64.wrap (d.fr - 1) = ((d.fr - 1).toNat : Nat) := by
      rw [pBZ (by omega) (by omega)]
      omega
    have hj : (d.fr - 1).toNat < (applyB s rd out i).length := by omega
    have hrow := hms.get (d.fr - 1).toNat
    have hsaid := hm.get (d.of_ - 1).toNat
    obtain ⟨pt, u, a1, a2, a3⟩ := hR.get hj
    have tail : ∀ (sv : Value) (said : List Int), Sl (eInt .u64) H2 sv said → rng s.P said → told s.P s.bad d ((applyB s rd out i).getD (d.fr - 1).toNat []) said = told s.P s.bad d ((applyB s rd out i).getD (d.fr - 1).toNat []) (out.getD (d.of_ - 1).toNat []) →
        oRC Tryd.prog 111 [scnVal s cv dv tv, d.val, u, sv] H2 noP fun v_31 H_32 => (qWZ ty3 (.pointer (some ⟨x, 1, none⟩)) H_32 = some (.int .i64 d.fr) ∧ oV (p1Z 1 v (.int .i64 ((d.fr - 1).toNat : Nat))) fun t48 => oHeap (p2Z ty52 t48 v_31 H_32) fun H_34 =>
          oV (vInt .add (.int .i64 i) (.int .i64 1)) fun t49 => L81_3 (.int .i64 rd) ov (qTZ i3) v dv (.int .i64 s.devs.length) t49 H_34 kn Q) := by
      intro sv said hsv hsr he
      refine p9Z (upon_spec hp (hok.bad.mono (h0.trans hR.le)) (a3.mono hR.le) hsv hrow.1 hsr (by omega) hdok) fun w H3 hw => ?_
      obtain ⟨N, hN, hwN⟩ := hw
      refine ⟨(hdx.mono hN.1).l1, ?_⟩
      have hsw := hwN R hR.le a3
      rw [he] at hsw
      obtain ⟨pt2, H4, b1, b2, b3⟩ := (hR.news hN).put hj hsw
      refine qQZ b1 (p8Z b2 (qQZ (vInt_add _ _ _) ?_))
      rw [w1]
      exact next (hun R N) H4 v (h0.trans (qNZ _ _)) b3
    refine qQZ (q1Z _ _) (qQZ hdx.l4 (qQZ (q5Z _ _ _) (qJZ (fun k3 => ?_) (fun k3 => ?_))))
    · have ho1 := hdok.of3 k3
      have ho2 := hdok.of2
      have wo : IntKind.i64.wrap (d.of_ - 1) = d.of_ - 1 := pBZ (by omega) (by omega)
      have hml := hm.len
      obtain ⟨po, uo, o1, o2, o3⟩ := (ho.mono (h0.trans hR.le)).slice .i64 (i := d.of_ - 1) (by omega) (by omega) (ti := ty52) rfl
      refine qQZ (q1Z _ _) (qQZ hdx.l6 (qQZ (vInt_sub _ _ _) ?_))
      rw [wo]
      refine qQZ o1 (qQZ o2 (qQZ (q1Z _ _) (qQZ hdx.l1 (qQZ (vInt_sub _ _ _) ?_))))
      rw [wf]
      refine qQZ hsH.all (qQZ hdx.all (qQZ (q1Z _ _) (qQZ hdx.l1 (qQZ (vInt_sub _ _ _) ?_))))
      rw [wf]
      exact qQZ a1 (qQZ a2 (tail uo _ o3 hsaid.1 rfl))
    · refine qQZ (q1Z _ _) (qQZ hdx.l1 (qQZ (vInt_sub _ _ _) ?_))
      rw [wf]
      refine qQZ hsH.all (qQZ hdx.all (qQZ (q1Z _ _) (qQZ hdx.l1 (qQZ (vInt_sub _ _ _) ?_))))
      rw [wf]
      exact qQZ a1 (qQZ a2 (tail _ [] (Sl.nil _ _) (fun x hx => by cases hx) (told_said k3 _ _)))
theorem applyB_spec {H : Heap} (hp : Supp s.P) (hok : ScnOk H s cv dv tv) (ho : Sl (qXZ (eInt .u64)) H ov out) (hm : Msgs s.P s.N out) (hds : ∀ d ∈ s.devs, DevOk s.N d) (hN : s.N ≤ 1000) :
    qVZ Tryd.prog 81 [scnVal s cv dv tv, .int .i64 rd, ov] H (Ret fun v H' => Le H H' ∧ Sl (qXZ (eInt .u64)) H' v (applyB s rd out s.devs.length)) := by
  have hml := hm.len
  apply call81
  unfold m81
  refine scn_new s cv dv tv fun i1 H1 l1 hs1 => ?_
  refine p9Z (clone_rows (ho.mono l1) (by omega)) fun v H2 hv => ?_
  obtain ⟨us, u1, u2, u3⟩ := hv
  unfold m81_2
  refine qQZ (q1Z _ _) (qQZ (hs1.mono u2.1).ds (qQZ hok.devs.len ?_))
  refine applyB_loop (R0 := H1) hp (hok.mono l1) hs1 (ho.mono l1) hm hds hN (fun w R K hR hw => ?_) _ 0 H1 H2 v rfl (by omega) (Le.refl _) ⟨us, u1, u2, u3⟩
  unfold m81_1
  exact ⟨(l1.trans hR).trans hw.le, hw.sl⟩
end
end

section
open Go

theorem grown_put {G0 G : Heap} {sz n i : Nat} {e : TypeId} {v : Value} {cs : List Value} (h : Grown G0 G sz e v n cs) (hi : G0 i = none) (hv : blkOf v ≠ some i) (c : Blk) : Grown G0 (hins G i c) sz e v n cs := by
  refine ⟨fun j d hj => ?_, h.2.1.mono fun j hj => ?_, h.2.2⟩
  · rw [qOZ _ _ (fun e => by subst e; rw [hi] at hj; cases hj)]
    exact h.1 j d hj
  · rw [qOZ _ _ (fun e => by subst e; exact hv hj)]
theorem Grown.ixb {G H : Heap} {e : TypeId} {v : Value} {n : Nat} {cs : List Value} (h : Grown G H 1 e v n cs) {i : Nat} (hi : i < n) : ∃ j cap, v = .slice (some ⟨j, 0, none⟩) n cap ∧ H j = some (.cells cs (cap * 1) e true) ∧ G j = none ∧ p1Z 1 v (.int .i64 i) = some (.pointer (some ⟨j, i, none⟩)) ∧
    ∀ (ti : TI) (y : Value), ti.agg = false → ti.size = 1 → y.oneCell' = true → p2Z ti (.pointer (some ⟨j, i, none⟩)) y H = some (hins H j (.cells (cs.set i y) (cap * 1) e true)) ∧ Grown G (hins H j (.cells (cs.set i y) (cap * 1) e true)) 1 e v n (cs.set i y) := by
  obtain ⟨hle, ho, hn⟩ := h
  have hl := ho.length
  rcases ho with ⟨_, rfl, _⟩ | ⟨j, cap, rfl, h1, h2, h3, h4⟩
  · omega
  · have hG := hn j rfl
    refine ⟨j, cap, rfl, h3, hG, ?_, fun ti y ht hs hy => ⟨?_, fun x c hx => ?_, .inr ⟨j, cap, rfl, h1, h2, hins_self _ _ _, by simpa using h4⟩, fun x hx => hn x hx⟩⟩
    · simp only [p1Z]
      rw [if_pos (by omega)]
      simp
    · simp only [p2Z, h3, stCells, ht, Bool.false_eq_true, if_false]
      rw [if_pos ⟨hs, hy, by omega⟩]
      rfl
    · rw [qOZ _ _ (fun e0 => by subst e0; rw [hG] at hx; cases hx)]
      exact hle x c hx
theorem Rw.put_other {R H : Heap} {v : Value} {rows : List (List Int)} {b : Nat} (h : Rw R H v rows) (hb : R b = none) (hv : blkOf v ≠ some b) (c : Blk) : Rw R (hins H b c) v rows := by
  obtain ⟨us, h1, h2, h3⟩ := h
  exact ⟨us, h1, grown_put h2 hb hv c, h3⟩
theorem Rw.blk {R H : Heap} {v : Value} {rows : List (List Int)} (h : Rw R H v rows) {b : Nat} (hb : blkOf v = some b) : R b = none ∧ ∃ cs n, H b = some (.cells cs n 52 true) := by
  obtain ⟨us, h1, h2, h3⟩ := h
  exact ⟨h2.2.2 b hb, h2.2.1.at_ hb⟩
theorem Rw.one {R H : Heap} {v : Value} {rows : List (List Int)} (h : Rw R H v rows) : v.oneCell' = true := by
  obtain ⟨us, h1, h2, h3⟩ := h
  obtain ⟨b, cap, rfl, _⟩ := h2.2.1.read
  rfl
def Mx (R H : Heap) (v : Value) (mat : List (List (List Int))) : Prop := ∃ us, us.length = mat.length ∧ Grown R H 1 27 v mat.length us ∧ (∀ (j : Nat) u m, us[j]? = some u → mat[j]? = some m → Rw R H u m) ∧
  ∀ (i j : Nat) u w b, i ≠ j → us[i]? = some u → us[j]? = some w → blkOf u = some b → blkOf w ≠ some b
section
variable {R H : Heap} {v : Value} {mat : List (List (List Int))}
theorem Mx.le (h : Mx R H v mat) : Le R H := by
  obtain ⟨us, h1, h2, h3, h4⟩ := h
  exact h2.1
theorem Mx.grow {K : Heap} (h : Mx R H v mat) (hl : Le H K) : Mx R K v mat := by
  obtain ⟨us, h1, h2, h3, h4⟩ := h
  exact ⟨us, h1, h2.le hl, fun j u m hu hm => (h3 j u m hu hm).grow hl, h4⟩
theorem Mx.news {H' N : Heap} (h : Mx R H v mat) (hN : New H H' N) : Mx (hun R N) H' v mat := by
  obtain ⟨us, h1, h2, h3, h4⟩ := h
  exact ⟨us, h1, h2.news hN, fun j u m hu hm => (h3 j u m hu hm).news hN, h4⟩
theorem Mx.len (h : Mx R H v mat) : vLen v = some (.int .i64 mat.length) := by
  obtain ⟨us, h1, h2, h3, h4⟩ := h
  exact h2.2.1.len
theorem Mx.sl (h : Mx R H v mat) : Sl (qXZ (qXZ (eInt .u64))) H v mat := by
  obtain ⟨us, h1, h2, h3, h4⟩ := h
  refine h2.2.1.sl (e := qXZ (qXZ (eInt .u64))) fun i x hi => ?_
  obtain ⟨hl, rfl⟩ := List.getElem?_eq_some_iff.1 hi
  have hi' : i < us.length := by omega
  exact ⟨us[i], one_get _ i us[i] (List.getElem?_eq_getElem hi'), (h3 i _ _ (List.getElem?_eq_getElem hi') hi).sl⟩
theorem Mx.get (h : Mx R H v mat) {i : Nat} (hi : i < mat.length) : ∃ pt u, p1Z 1 v (.int .i64 i) = some pt ∧ qWZ ty27 pt H = some u ∧ Rw R H u (mat.getD i []) ∧
    (∀ {H' N : Heap}, New H H' N → qWZ ty27 pt H' = some u) ∧
    ∀ {j : Nat} {w : Value} {r : List Int}, j < (mat.getD i []).length → Sl (eInt .u64) R w r → ∃ pt2 H', p1Z 1 u (.int .i64 j) = some pt2 ∧ p2Z ty52 pt2 w H = some H' ∧ Mx R H' v (mat.set i ((mat.getD i []).set j r)) := by
  obtain ⟨us, h1, h2, h3, h4⟩ := h
  have hi' : i < us.length := by omega
  obtain ⟨jo, capo, rfl, hjo, hRo, hix, _⟩ := h2.ixb hi
  have e : mat.getD i [] = mat[i] := by simp [hi]
  have hrow := h3 i us[i] mat[i] (List.getElem?_eq_getElem hi') (List.getElem?_eq_getElem hi)
  have ld : ∀ K : Heap, K jo = some (.cells us (capo * 1) 27 true) → qWZ ty27 (.pointer (some ⟨jo, i, none⟩)) K = some us[i] := fun K hK => by
    simp only [qWZ, hK, show (ty27).agg = false from rfl, Bool.false_eq_true, if_false]
    exact List.getElem?_eq_getElem hi'
  rw [e]
  refine ⟨_, us[i], hix, ld H hjo, hrow, fun {H' N} hN => ld H' (hN.1 _ _ hjo), fun {j w r} hj hw => ?_⟩
  obtain ⟨ws, w1, w2, w3⟩ := hrow
  obtain ⟨jr, capr, hur, hjr, hRr, hixr, hst⟩ := w2.ixb hj
  obtain ⟨s1, s2⟩ := hst ty52 w rfl rfl hw.one
  have hbu : blkOf us[i] = some jr := by rw [hur]; rfl
  refine ⟨_, _, hixr, s1, us, by simpa using h1, ?_, fun k u m hu hm => ?_, h4⟩
  · rw [List.length_set]
    refine grown_put h2 hRr (fun e0 => ?_) _
    have e1 : jo = jr := by cases e0; rfl
    subst e1
    rw [hjo] at hjr
    simp at hjr
  · by_cases c : i = k
    · subst c
      rw [List.getElem?_set_self hi] at hm
      rw [List.getElem?_eq_getElem hi'] at hu
      cases hm
      cases hu
      refine ⟨ws.set j w, by simpa using w1, by rw [List.length_set]; exact s2, fun q x y hx hy => ?_⟩
      by_cases c : j = q
      · subst c
        rw [List.getElem?_set_self (by omega)] at hx hy
        cases hx
        cases hy
        exact hw
      · rw [List.getElem?_set_ne c] at hx hy
        exact w3 q x y hx hy
    · rw [List.getElem?_set_ne c] at hm
      exact (h3 k u m hu hm).put_other hRr (fun e0 => h4 i k us[i] u jr c (List.getElem?_eq_getElem hi') hu hbu e0) _
theorem Mx.setRow {H1 : Heap} (h : Mx R H v mat) {i : Nat} (hi : i < mat.length) {w : Value} {m : List (List Int)} (hl : Le H H1) (hw : Rw R H1 w m) (hnew : ∀ b, blkOf w = some b → H b = none) :
    ∃ pt H', p1Z 1 v (.int .i64 i) = some pt ∧ p2Z ty27 pt w H1 = some H' ∧ Mx R H' v (mat.set i m) := by
  obtain ⟨us, h1, h2, h3, h4⟩ := h
  obtain ⟨jo, capo, rfl, hjo, hRo, hix, hst⟩ := (h2.le hl).ixb hi
  obtain ⟨s1, s2⟩ := hst ty27 w rfl rfl hw.one
  have hoH : ∃ cs n, H jo = some (.cells cs n 27 true) := h2.2.1.at_ rfl
  have other : ∀ (u : Value) (q : List (List Int)), Rw R H1 u q → blkOf u ≠ some jo := fun u q hu e0 => by
    obtain ⟨_, _, _, h5⟩ := hu.blk e0
    rw [hjo] at h5
    cases h5
  refine ⟨_, _, hix, s1, us.set i w, by simpa using h1, by rw [List.length_set]; exact s2, fun k u q hu hq => ?_, fun k k' u u' b hkk hu hu' hb => ?_⟩
  · by_cases c : i = k
    · subst c
      rw [List.getElem?_set_self (by omega)] at hu hq
      cases hu
      cases hq
      exact hw.put_other hRo (other _ _ hw) _
    · rw [List.getElem?_set_ne c] at hu hq
      have := (h3 k u q hu hq).grow hl
      exact this.put_other hRo (other _ _ this) _
  · have key : ∀ (z : Value) (x : Nat) (bb : Nat), us[x]? = some z → blkOf z = some bb → blkOf w ≠ some bb := fun z x bb hz hzb e0 => by
      have hx : x < us.length := (List.getElem?_eq_some_iff.1 hz).1
      obtain ⟨_, _, _, h5⟩ := (h3 x z (mat[x]'(by omega)) hz (List.getElem?_eq_getElem _)).blk hzb
      rw [hnew bb e0] at h5
      cases h5
    by_cases c : i = k
    · subst c
      rw [List.getElem?_set_self (by omega)] at hu
      rw [List.getElem?_set_ne hkk] at hu'
      cases hu
      exact fun e0 => key u' k' b hu' e0 hb
    · rw [List.getElem?_set_ne c] at hu
      by_cases c' : i = k'
      · subst c'
        rw [List.getElem?_set_self (by omega)] at hu'
        cases hu'
        exact key u k b hu hb
      · rw [List.getElem?_set_ne c'] at hu'
        exact h4 k k' u u' b hkk hu hu' hb
end
def hits (d : Dev) (j : Nat) : Prop := (j : Int) + 1 ≠ d.fr ∧ (d.to_ = 0 ∨ d.to_ = (j : Int) + 1)
instance (d : Dev) (j : Nat) : Decidable (hits d j) := by unfold hits; infer_instance
def rowTo (s : Scn) (d : Dev) (said : List Int) (row : List (List Int)) : Nat → List (List Int)
  | 0 => row
  | j + 1 => if hits d j then (rowTo s d said row j).set j (told s.P s.bad d ((rowTo s d said row j).getD j []) said) else rowTo s d said row j
theorem rowTo_msgs {s : Scn} {d : Dev} {said : List Int} {row : List (List Int)} (hp : 0 < s.P) (h : Msgs s.P s.N row) : ∀ j, Msgs s.P s.N (rowTo s d said row j)
  | 0 => h
  | j + 1 => by
    have ih := rowTo_msgs (d := d) (said := said) hp h j
    simp only [rowTo]
    split
    · refine ⟨by rw [List.length_set]; exact ih.len, fun r hr => ?_⟩
      rcases List.mem_or_eq_of_mem_set hr with hr | rfl
      · exact ih.rng r hr
      · have := ih.get j
        exact ⟨told_rng hp this.1, Nat.le_trans told_len this.2⟩
    · exact ih
theorem rowTo_said {s : Scn} {d : Dev} {row : List (List Int)} (h : d.kd ≠ 3) (a b : List Int) : ∀ j, rowTo s d a row j = rowTo s d b row j
  | 0 => rfl
  | j + 1 => by
    simp only [rowTo, rowTo_said h a b j]
    rw [told_said h a b]
def saidM (out : List (List (List Int))) (d : Dev) : List Int := (out.getD (d.of_ - 1).toNat []).getD (d.fr - 1).toNat []
def stepM (s : Scn) (rd : Int) (out mat : List (List (List Int))) (d : Dev) : List (List (List Int)) :=
  if d.rd = rd ∧ d.fr ∈ s.bad then mat.set (d.fr - 1).toNat (rowTo s d (saidM out d) (mat.getD (d.fr - 1).toNat []) s.N.toNat) else mat
def applyM (s : Scn) (rd : Int) (out : List (List (List Int))) (i : Nat) : List (List (List Int)) := (s.devs.take i).foldl (stepM s rd out) out
structure MsgsM (p n : Int) (mat : List (List (List Int))) : Prop where
  len : (mat.length : Int) = n
  rows : ∀ m ∈ mat, Msgs p n m
theorem MsgsM.get {p n : Int} {mat : List (List (List Int))} (h : MsgsM p n mat) {j : Nat} (hj : j < mat.length) : Msgs p n (mat.getD j []) := by
  have e : mat.getD j [] = mat[j] := by simp [hj]
  rw [e]
  exact h.rows _ (List.getElem_mem hj)
theorem stepM_msgs {s : Scn} {rd : Int} {out mat : List (List (List Int))} {d : Dev} (hp : 0 < s.P) (hf1 : 1 ≤ d.fr) (hf2 : d.fr ≤ s.N) (h : MsgsM s.P s.N mat) : MsgsM s.P s.N (stepM s rd out mat d) := by
  unfold stepM
  split
  · refine ⟨by rw [List.length_set]; exact h.len, fun m hm => ?_⟩
    rcases List.mem_or_eq_of_mem_set hm with hm | rfl
    · exact h.rows m hm
    · have := h.len
      exact rowTo_msgs hp (h.get (by omega)) _
  · exact h
theorem applyM_succ {s : Scn} {rd : Int} {out : List (List (List Int))} {i : Nat} (h : i < s.devs.length) : applyM s rd out (i + 1) = stepM s rd out (applyM s rd out i) s.devs[i] := by
  simp only [applyM, List.take_succ_eq_append_getElem h, List.foldl_append, List.foldl_cons, List.foldl_nil]
theorem applyM_msgs {s : Scn} {rd : Int} {out : List (List (List Int))} (hp : 0 < s.P) (hds : ∀ d ∈ s.devs, DevOk s.N d) (h : MsgsM s.P s.N out) : ∀ i, i ≤ s.devs.length → MsgsM s.P s.N (applyM s rd out i)
  | 0, _ => h
  | i + 1, hi => by
    rw [applyM_succ (by omega)]
    have := hds _ (List.getElem_mem (show i < s.devs.length by omega))
    exact stepM_msgs hp this.fr1 this.fr2 (applyM_msgs hp hds h i (by omega))
theorem set_getD {α : Type} (l : List α) (i : Nat) (d : α) (h : i < l.length) : l.set i (l.getD i d) = l := by
  have : l.getD i d = l[i] := by simp [h]
  rw [this, List.set_getElem_self]
theorem getD_set {α : Type} (l : List α) (i j : Nat) (x d : α) (hj : j < l.length) : (l.set i x).getD j d = if i = j then x else l.getD j d := by
  rw [List.getD_eq_getElem?_getD, List.getElem?_set, List.getD_eq_getElem?_getD]
  by_cases h : i = j
  · subst h
    simp [hj]
  · simp [h]
end

section
open Go

section
variable {s : Scn} {cv dv tv ov sv v : Value} {rd : Int} {out mat : List (List (List Int))} {d : Dev} {said : List Int} {i3 x : Nat}
theorem hit_body {R H : Heap} {f j : Nat} {k : Heap → Prop} (hp : Supp s.P) (hN : s.N ≤ 1000) (hok : ScnOk R s cv dv tv) (hs : SAt R i3 s cv dv tv) (hdx : DAt R x d) (hd : DevOk s.N d) (hsv : Sl (eInt .u64) R sv said) (hsr : rng s.P said) (hM : Mx R H v mat) (hm : MsgsM s.P s.N mat) (hf : d.fr - 1 = f) (hfl : f < mat.length) (hj : j < (mat.getD f []).length)
    (hk : ∀ R' H', Le R R' → Mx R' H' v (mat.set f ((mat.getD f []).set j (told s.P s.bad d ((mat.getD f []).getD j []) said))) → k H') :
    oV (qYZ 1 (qTZ x)) fun t84 => oV (qWZ ty3 t84 H) fun t85 => oV (vInt .sub t85 (.int .i64 1)) fun t86 => oV (p1Z 1 v t86) fun t87 => oV (qWZ ty27 t87 H) fun t88 => oV (qWZ ty29 (qTZ i3) H) fun t90 => oV (qWZ ty109 (qTZ x) H) fun t91 =>
      oV (qYZ 1 (qTZ x)) fun t93 => oV (qWZ ty3 t93 H) fun t94 => oV (vInt .sub t94 (.int .i64 1)) fun t95 => oV (p1Z 1 v t95) fun t96 => oV (qWZ ty27 t96 H) fun t97 => oV (p1Z 1 t97 (.int .i64 j)) fun t99 => oV (qWZ ty52 t99 H) fun t100 =>
      oRC Tryd.prog 111 [t90, t91, t100, sv] H noP fun v_32 H_33 => (qWZ ty27 t87 H_33 = some t88 ∧ (qWZ ty3 t84 H_33 = some t85 ∧ oV (p1Z 1 t88 (.int .i64 j)) fun t103 => oHeap (p2Z ty52 t103 v_32 H_33) fun H_35 => k H_35)) := by
  have hpp := hp.pos
  have hle := hM.le
  have hf1 := hd.fr1
  have hf2 := hd.fr2
  have wf : IntKind.i64.wrap (d.fr - 1) = (f : Int) := by rw [pBZ (by omega) (by omega), hf]
  obtain ⟨pt, u, a1, a2, a3, a4, a5⟩ := hM.get hfl
  obtain ⟨pt2, w, b1, b2, b3⟩ := a3.get hj
  have hrow := (hm.get hfl).get j
  refine qQZ (q1Z _ _) (qQZ (hdx.mono hle).l1 (qQZ (vInt_sub _ _ _) ?_))
  rw [wf]
  refine qQZ a1 (qQZ a2 (qQZ (hs.mono hle).all (qQZ (hdx.mono hle).all (qQZ (q1Z _ _) (qQZ (hdx.mono hle).l1 (qQZ (vInt_sub _ _ _) ?_))))))
  rw [wf]
  refine qQZ a1 (qQZ a2 (qQZ b1 (qQZ b2 ?_)))
  refine p9Z (upon_spec hp (hok.bad.mono hle) (b3.mono hle) (hsv.mono hle) hrow.1 hsr (by omega) hd) fun y H3 hy => ?_
  obtain ⟨N, hNw, hyN⟩ := hy
  refine ⟨a4 hNw, (hdx.mono (hle.trans hNw.1)).l1, ?_⟩
  have hsw := hyN R hle b3
  obtain ⟨pt', u', c1, c2, _, _, c5⟩ := (hM.news hNw).get hfl
  rw [a1] at c1
  cases c1
  rw [a4 hNw] at c2
  cases c2
  obtain ⟨pt3, H4, d1, d2, d3⟩ := c5 hj hsw
  exact qQZ d1 (p8Z d2 (hk _ H4 (qNZ _ _) d3))
theorem inner_loop {R0 : Heap} {f N : Nat} {x32 x33 : Value} (hp : Supp s.P) (hN : s.N ≤ 1000) (hok : ScnOk R0 s cv dv tv) (hs : SAt R0 i3 s cv dv tv) (hdx : DAt R0 x d) (hd : DevOk s.N d) (hsv : Sl (eInt .u64) R0 sv said) (hsr : rng s.P said) (hm : MsgsM s.P s.N mat) (hf : d.fr - 1 = f) (hfl : f < mat.length) (hNn : s.N = N)
    {kn kx3 : Value → Value → Value → Value → Value → Value → Value → Heap → Prop} {kx2 : Value → Heap → Prop} {Q : Ending → Heap → Prop}
    (hk : ∀ R H, Le R0 R → Mx R H v (mat.set f (rowTo s d said (mat.getD f []) N)) → kn (.int .i64 rd) ov (qTZ i3) v dv x32 x33 H) :
    ∀ (n j : Nat) (R H : Heap), N - j = n → j ≤ N → Le R0 R → Mx R H v (mat.set f (rowTo s d said (mat.getD f []) j)) →
      L80_10 (.int .i64 rd) ov (qTZ i3) v (qTZ x) sv dv x32 x33 (.int .i64 N) (.int .i64 j) H kn kx3 kx2 Q := by
  have hpp := hp.pos
  have hrow0 := hm.get hfl
  intro n
  induction n with
  | zero =>
    intro j R H hn hj h0 hM
    apply L80_10_round
    unfold m80_11
    refine qQZ (q7Z _ _ _) (qJZ (fun hlt => absurd hlt (by omega)) (fun _ => ?_))
    have : j = N := by omega
    subst this
    exact hk R H h0 hM
  | succ n ih =>
    intro j R H hn hj h0 hM
    apply L80_10_round
    unfold m80_11
    refine qQZ (q7Z _ _ _) (qJZ (fun hlt => ?_) (fun hlt => absurd (by omega) hlt))
    have w1 := pBZ (show -9223372036854775808 ≤ (j : Int) + 1 by omega) (by omega)
    have hle := h0.trans hM.le
    have next := fun R' H' => ih (j + 1) R' H' (by omega) (by omega)
    simp only [rowTo] at next
    have hrowj := rowTo_msgs (d := d) (said := said) (show 0 < s.P by omega) hrow0 j
    have hg : (mat.set f (rowTo s d said (mat.getD f []) j)).getD f [] = rowTo s d said (mat.getD f []) j := by rw [getD_set _ _ _ _ _ hfl, if_pos rfl]
    have hlen := hrowj.len
    have miss : ¬ hits d j → oV (vInt .add (.int .i64 j) (.int .i64 1)) fun t104 => L80_10 (.int .i64 rd) ov (qTZ i3) v (qTZ x) sv dv x32 x33 (.int .i64 N) t104 H kn kx3 kx2 Q := fun hh => by
      refine qQZ (vInt_add _ _ _) ?_
      rw [w1]
      simp only [if_neg hh] at next
      exact next R H h0 hM
    have hit := fun (hh : hits d j) => hit_body (R := R) (H := H) (f := f) (j := j) (mat := mat.set f (rowTo s d said (mat.getD f []) j)) (k := fun H_35 => oV (vInt .add (.int .i64 j) (.int .i64 1)) fun t104 => L80_10 (.int .i64 rd) ov (qTZ i3) v (qTZ x) sv dv x32 x33 (.int .i64 N) t104 H_35 kn kx3 kx2 Q)
      hp hN (hok.mono h0) (hs.mono h0) (hdx.mono h0) hd (hsv.mono h0) hsr hM ⟨by rw [List.length_set]; exact hm.len, fun m hmm => by
        rcases List.mem_or_eq_of_mem_set hmm with hmm | rfl
        · exact hm.rows m hmm
        · exact hrowj⟩ hf (by rw [List.length_set]; exact hfl) (by rw [hg]; omega) (fun R' H' hl hM' => by
        refine qQZ (vInt_add _ _ _) ?_
        rw [w1]
        simp only [if_pos hh] at next
        refine next R' H' (h0.trans hl) ?_
        rw [hg, List.set_set] at hM'
        exact hM')
    refine qQZ (vInt_add _ _ _) ?_
    rw [w1]
    refine qQZ (q1Z _ _) (qQZ (hdx.mono hle).l1 (qQZ (q6Z _ _ _) ?_))
    by_cases c1 : (j : Int) + 1 ≠ d.fr
    rotate_left
    · rw [decide_eq_false c1]
      exact qLZ (miss fun h => c1 h.1)
    rw [decide_eq_true c1]
    refine qQZ (v := .pointer (some ⟨x, 2, none⟩)) rfl (qQZ (v := .int .i64 d.to_) (hdx.mono hle).l2 (qQZ (v := .bool (decide (d.to_ = 0))) (q5Z .i64 d.to_ 0) (qQZ (v := .bool (decide (d.to_ = 0))) rfl ?_)))
    by_cases c2 : d.to_ = 0
    · rw [decide_eq_true c2]
      exact qMZ (hit ⟨c1, .inl c2⟩)
    rw [decide_eq_false c2]
    have ea : gV (.bool false) false (vInt .add (.int .i64 (j : Int)) (.int .i64 1)) (some undef) = some (.int .i64 ((j : Int) + 1)) := by
      show vInt .add (.int .i64 (j : Int)) (.int .i64 1) = _
      rw [vInt_add, w1]
    refine qQZ (v := .pointer (some ⟨x, 2, none⟩)) rfl (qQZ (v := .int .i64 d.to_) (hdx.mono hle).l2 (qQZ (v := .int .i64 j) rfl (qQZ ea (qQZ (v := .bool (decide (d.to_ = (j : Int) + 1))) (q5Z .i64 d.to_ ((j : Int) + 1)) (qQZ (v := .bool (decide (d.to_ = (j : Int) + 1))) rfl (qQZ (v := .bool (decide (d.to_ = (j : Int) + 1))) rfl (qJZ (fun c3 => hit ⟨c1, .inr c3⟩) (fun c3 => miss fun h => h.2.elim c2 c3))))))))
theorem clones_loop {R0 : Heap} (ho : Sl (qXZ (qXZ (eInt .u64))) R0 ov out) (hm : MsgsM s.P s.N out) (hN : s.N ≤ 1000) {x1 x3 : Value} {kn : Value → Value → Value → Value → Heap → Prop} {Q : Ending → Heap → Prop}
    (hk : ∀ R H, Le R0 R → Mx R H v out → kn x1 ov x3 v H) :
    ∀ (n i : Nat) (H : Heap), out.length - i = n → i ≤ out.length → Mx R0 H v (out.take i ++ List.replicate (out.length - i) []) → L80_13 x1 ov x3 v ov (.int .i64 out.length) (.int .i64 i) H kn Q := by
  have hlen := hm.len
  intro n
  induction n with
  | zero =>
    intro i H hn hi hM
    apply L80_13_round
    unfold m80_14
    refine qQZ (q7Z _ _ _) (qJZ (fun hlt => absurd hlt (by omega)) (fun _ => ?_))
    have : i = out.length := by omega
    subst this
    rw [List.take_length, Nat.sub_self, List.replicate_zero, List.append_nil] at hM
    exact hk R0 H (Le.refl _) hM
  | succ n ih =>
    intro i H hn hi hM
    apply L80_13_round
    unfold m80_14
    refine qQZ (q7Z _ _ _) (qJZ (fun hlt => ?_) (fun hlt => absurd (by omega) hlt))
    have hil : i < out.length := by omega
    obtain ⟨pt, u, a1, a2, a3⟩ := (ho.mono hM.le).slice .i64 (i := (i : Int)) (by omega) (by omega) (ti := ty27) rfl
    obtain ⟨pt0, u0, z1, z2, z3⟩ := ho.slice .i64 (i := (i : Int)) (by omega) (by omega) (ti := ty27) rfl
    rw [a1] at z1
    cases z1
    have := qKZ hM.le z2
    rw [a2] at this
    cases this
    have e : out.getD (i : Int).toNat [] = out[i] := by
      rw [Int.toNat_natCast, List.getD_eq_getElem?_getD, List.getElem?_eq_getElem hil]
      rfl
    rw [e] at a3 z3
    have hmi := hm.rows _ (List.getElem_mem hil)
    have hmil := hmi.len
    refine qQZ a1 (qQZ a2 ?_)
    obtain ⟨zb, zc, zus, zv, zl, zm, zr, zul, zs⟩ := z3.slices
    refine p9Z (R := fun w H2 => Le H H2 ∧ Rw R0 H2 w out[i] ∧ ∀ b, blkOf w = some b → H b = none) (call109 _ _ _ ?_) fun w H2 hw => ?_
    · unfold m109
      subst zv
      cases zb with
      | none =>
        have : out[i] = [] := List.eq_nil_of_length_eq_zero (rdSlice_none zr)
        rw [this]
        exact qMZ ⟨Le.refl _, ⟨[], rfl, (Grown.nil H 1 52).less hM.le, fun j u r hu => by simp at hu⟩, fun b hb => by cases hb⟩
      | some a =>
        refine qLZ (append_copy (te := ty52) (rdSlice_mono hM.le zr) ?_ (by show 0 < 1; omega) (by show out[i].length * 24 ≤ _; omega) (by omega) (by rw [zul]; exact (Nat.mul_one _).symm) fun v' H' hg => ⟨hg.1, ⟨zus, zul, hg.less hM.le, zs⟩, hg.2.2⟩)
        intro y hy
        obtain ⟨j, hj, rfl⟩ := List.mem_iff_getElem.1 hy
        exact (zs j zus[j] (out[i][j]'(by omega)) (List.getElem?_eq_getElem hj) (List.getElem?_eq_getElem _)).one
    · obtain ⟨hl2, hrw, hnew⟩ := hw
      obtain ⟨pt2, H3, b1, b2, b3⟩ := hM.setRow (i := i) (by simp; omega) hl2 hrw hnew
      refine qQZ b1 (p8Z b2 (qQZ (vInt_add _ _ _) ?_))
      rw [pBZ (by omega) (by omega)]
      refine ih (i + 1) H3 (by omega) (by omega) ?_
      have e2 : (out.take i ++ List.replicate (out.length - i) []).set i out[i] = out.take (i + 1) ++ List.replicate (out.length - (i + 1)) [] := by
        have tl : (out.take i).length = i := by rw [List.length_take]; omega
        rw [List.set_append_right _ _ (by omega), tl, Nat.sub_self, show out.length - i = (out.length - (i + 1)) + 1 by omega, List.replicate_succ, List.take_succ_eq_append_getElem hil, List.append_assoc]
        rfl
      rw [e2] at b3
      exact b3
theorem applyM_loop {R0 : Heap} (hp : Supp s.P) (hok : ScnOk R0 s cv dv tv) (hs : SAt R0 i3 s cv dv tv) (ho : Sl (qXZ (qXZ (eInt .u64))) R0 ov out) (hm : MsgsM s.P s.N out) (hds : ∀ d ∈ s.devs, DevOk s.N d) (hN : s.N ≤ 1000) {kn : Value → Heap → Prop} {Q : Ending → Heap → Prop}
    (hk : ∀ R H, Le R0 R → Mx R H v (applyM s rd out s.devs.length) → kn v H) :
    ∀ (n i : Nat) (R H : Heap), s.devs.length - i = n → i ≤ s.devs.length → Le R0 R → Mx R H v (applyM s rd out i) → L80_4 (.int .i64 rd) ov (qTZ i3) v dv (.int .i64 s.devs.length) (.int .i64 i) H kn Q := by
  have hpp := hp.pos
  have hdm := hok.devs.max
  intro n
  induction n with
  | zero =>
    intro i R H hn hi h0 hM
    apply L80_4_round
    unfold m80_5
    refine qQZ (q7Z _ _ _) (qJZ (fun hlt => absurd hlt (by omega)) (fun _ => ?_))
    have : i = s.devs.length := by omega
    subst this
    exact hk R H h0 hM
  | succ n ih =>
    intro i R H hn hi h0 hM
    apply L80_4_round
    unfold m80_5
    refine qQZ (q7Z _ _ _) (qJZ (fun hlt => ?_) (fun hlt => absurd (by omega) hlt))
    unfold m80_7 m80_8
    have hil : i < s.devs.length := by omega
    have hms := applyM_msgs (rd := rd) (show 0 < s.P by omega) hds hm i (by omega)
    have next := fun R' H' => ih (i + 1) R' H' (by omega) (by omega)
    rw [applyM_succ hil] at next
    have hdok := hds _ (List.getElem_mem hil)
    have w1 := pBZ (show -9223372036854775808 ≤ (i : Int) + 1 by omega) (by omega)
    have go : ∀ (R' H' : Heap), Le R0 R' → Mx R' H' v (stepM s rd out (applyM s rd out i) s.devs[i]) → m80_6 (.int .i64 rd) ov (qTZ i3) v dv (.int .i64 s.devs.length) (.int .i64 i) H' (fun y1 y2 y3 y7 y31 y32 y33 H => L80_4 y1 y2 y3 y7 y31 y32 y33 H kn Q) kn Q := fun R' H' hl hM' => by
      unfold m80_6
      refine qQZ (vInt_add _ _ _) ?_
      rw [w1]
      exact next R' H' hl hM'
    obtain ⟨q, f1, f2⟩ := (hok.devs.mono (h0.trans hM.le)).dev hil
    refine qQZ f1 (qQZ f2 ?_)
    -- the local copy is new: it may be told beside
    show oNew [.int .i64 0, .int .i64 0, .int .i64 0, .int .i64 0, .int .i64 0, .int .u64 0, .int .i64 0, .int .i64 0] 8 109 H _
    intro x hx
    generalize s.devs[i] = d at go next hdok f2 ⊢
    have e : p2Z ty109 (qTZ x) d.val (hins H x (.cells [.int .i64 0, .int .i64 0, .int .i64 0, .int .i64 0, .int .i64 0, .int .u64 0, .int .i64 0, .int .i64 0] 8 109 true)) = some (hins (hins H x (.cells [.int .i64 0, .int .i64 0, .int .i64 0, .int .i64 0, .int .i64 0, .int .u64 0, .int .i64 0, .int .i64 0] 8 109 true)) x (.cells d.cells 8 109 true)) := by
      simp only [p2Z, qTZ, hins_self]
      rfl
    rw [hins_hins] at e
    refine p8Z e ?_
    have hNx : New H (hins H x (.cells d.cells 8 109 true)) (hone x (.cells d.cells 8 109 true)) := ⟨Le.ins _ hx, hone_le (hins_self _ _ _), fun k hk => by
      by_cases c : k = x
      · subst c; exact hx
      · simp [hone, c] at hk⟩
    have hRx : R x = none := none_le hM.le hx
    replace hM := hM.news hNx
    have hdx : DAt (hun R (hone x (.cells d.cells 8 109 true))) x d := ⟨by simp [hun, hRx, hone]⟩
    replace h0 := h0.trans (qNZ R (hone x (.cells d.cells 8 109 true)))
    generalize hun R (hone x (.cells d.cells 8 109 true)) = R1 at hM hdx h0
    generalize hins H x (.cells d.cells 8 109 true) = H1 at hM ⊢
    have hle := h0.trans hM.le
    refine qQZ (hs.mono hle).all (qQZ (hdx.mono hM.le).all (oRC_grow (done_spec (hok.bad.mono hle)) fun H2 l2 => ?_))
    replace hM := hM.grow l2
    by_cases c : d.rd = rd ∧ d.fr ∈ s.bad
    rotate_left
    · rw [decide_eq_false c]
      refine qQZ rfl (qMZ ?_)
      simp only [stepM, if_neg c] at go
      exact go R1 H2 h0 hM
    rw [decide_eq_true c]
    simp only [stepM, if_pos c] at go
    refine qQZ rfl (qLZ ?_)
    have hf1 := hdok.fr1
    have hf2 := hdok.fr2
    have hlen := hms.len
    have hml := hm.len
    obtain ⟨f, hf⟩ : ∃ f : Nat, d.fr - 1 = f := ⟨(d.fr - 1).toNat, by omega⟩
    obtain ⟨N, hNn⟩ : ∃ N : Nat, s.N = N := ⟨s.N.toNat, by omega⟩
    have wf : IntKind.i64.wrap (d.fr - 1) = (f : Int) := by rw [pBZ (by omega) (by omega), hf]
    have hfl : f < (applyM s rd out i).length := by omega
    have hfn : (d.fr - 1).toNat = f := by omega
    rw [hfn, show s.N.toNat = N by omega] at go
    have tail : ∀ (sv : Value) (said : List Int), Sl (eInt .u64) R1 sv said → rng s.P said → rowTo s d said ((applyM s rd out i).getD f []) N = rowTo s d (saidM out d) ((applyM s rd out i).getD f []) N →
        m80_9 (.int .i64 rd) ov (qTZ i3) v (qTZ x) sv dv (.int .i64 s.devs.length) (.int .i64 i) H2 (fun y1 y2 y3 y7 y31 y32 y33 H => m80_6 y1 y2 y3 y7 y31 y32 y33 H (fun y1 y2 y3 y7 y31 y32 y33 H => L80_4 y1 y2 y3 y7 y31 y32 y33 H kn Q) kn Q) (fun y1 y2 y3 y7 y31 y32 y33 H => m80_6 y1 y2 y3 y7 y31 y32 y33 H (fun y1 y2 y3 y7 y31 y32 y33 H => L80_4 y1 y2 y3 y7 y31 y32 y33 H kn Q) kn Q) kn Q := by
      intro sv said hsv hsr he
      unfold m80_9
      obtain ⟨pt, u, a1, a2, a3, _, _⟩ := hM.get hfl
      have hrl := (hms.get hfl).len
      refine qQZ (q1Z _ _) (qQZ (hdx.mono hM.le).l1 (qQZ (vInt_sub _ _ _) ?_))
      rw [wf]
      refine qQZ a1 (qQZ a2 (qQZ a3.len ?_))
      rw [hrl, hNn]
      refine inner_loop (R0 := R1) hp hN (hok.mono h0) (hs.mono h0) hdx hdok hsv hsr hms hf hfl hNn (fun R' H' hl hM' => ?_) _ 0 R1 H2 rfl (by omega) (Le.refl _) ?_
      · rw [he] at hM'
        exact go R' H' (h0.trans hl) hM'
      · simp only [rowTo]
        rw [set_getD _ _ _ hfl]
        exact hM
    refine qQZ (q1Z _ _) (qQZ (hdx.mono hM.le).l4 (qQZ (q5Z _ _ _) (qJZ (fun k3 => ?_) (fun k3 => ?_))))
    · have ho1 := hdok.of3 k3
      have ho2 := hdok.of2
      have wo : IntKind.i64.wrap (d.of_ - 1) = d.of_ - 1 := pBZ (by omega) (by omega)
      have hmo := hm.get (j := (d.of_ - 1).toNat) (by omega)
      have hmol := hmo.len
      obtain ⟨po, uo, o1, o2, o3⟩ := (ho.mono h0).slice .i64 (i := d.of_ - 1) (by omega) (by omega) (ti := ty27) rfl
      obtain ⟨pi, ui, i1, i2, i3'⟩ := o3.slice .i64 (i := d.fr - 1) (by omega) (by omega) (ti := ty52) rfl
      refine qQZ (q1Z _ _) (qQZ (hdx.mono hM.le).l6 (qQZ (vInt_sub _ _ _) ?_))
      rw [wo]
      refine qQZ o1 (qQZ (qKZ hM.le o2) (qQZ (q1Z _ _) (qQZ (hdx.mono hM.le).l1 (qQZ (vInt_sub _ _ _) ?_))))
      rw [pBZ (x := d.fr - 1) (by omega) (by omega)]
      refine qQZ i1 (qQZ (qKZ hM.le i2) ?_)
      exact tail ui _ i3' (hmo.get _).1 rfl
    · exact tail _ [] (Sl.nil _ _) (fun x hx => by cases hx) (rowTo_said k3 _ _ _)
theorem applyM_spec {H : Heap} (hp : Supp s.P) (hok : ScnOk H s cv dv tv) (ho : Sl (qXZ (qXZ (eInt .u64))) H ov out) (hm : MsgsM s.P s.N out) (hds : ∀ d ∈ s.devs, DevOk s.N d) (hN : s.N ≤ 1000) :
    qVZ Tryd.prog 80 [scnVal s cv dv tv, .int .i64 rd, ov] H (Ret fun v H' => Le H H' ∧ Sl (qXZ (qXZ (eInt .u64))) H' v (applyM s rd out s.devs.length)) := by
  have hml := hm.len
  apply call80
  unfold m80
  refine scn_new s cv dv tv fun i1 H1 l1 hs1 => ?_
  refine qQZ ho.len (oMake_own (te := ty27) rfl (by show 24 * _ ≤ _; omega) (by omega) fun v H2 hg => ?_)
  rw [zerosL_one rfl] at hg
  unfold m80_12
  refine qQZ ho.len ?_
  have hM0 : Mx H1 H2 v ([] ++ List.replicate (out.length - 0) []) := by
    replace hg : Grown H1 H2 1 27 v out.length (List.replicate out.length (.slice none 0 0)) := hg
    refine ⟨List.replicate out.length (.slice none 0 0), by simp, by simpa using hg, fun j u m hu hmm => ?_, fun i j u w b _ hu _ hb => ?_⟩
    · rw [List.nil_append] at hmm
      rw [List.getElem?_replicate] at hu hmm
      by_cases c : j < out.length
      · rw [if_pos c] at hu
        rw [if_pos (by omega)] at hmm
        cases hu
        cases hmm
        exact ⟨[], rfl, (Grown.nil H2 1 52).less hg.1, fun j u r hu => by simp at hu⟩
      · rw [if_neg c] at hu
        cases hu
    · rw [List.getElem?_replicate] at hu
      by_cases c : i < out.length
      · rw [if_pos c] at hu
        cases hu
        cases hb
      · rw [if_neg c] at hu
        cases hu
  refine clones_loop (R0 := H1) (s := s) (ho.mono l1) hm hN (fun R K hR hM => ?_) _ 0 H2 rfl (by omega) hM0
  unfold m80_1 m80_3
  have hsK := hs1.mono (hR.trans hM.le)
  refine qQZ (q1Z _ _) (qQZ hsK.ds (qQZ hok.devs.len ?_))
  refine applyM_loop (R0 := R) hp (hok.mono (l1.trans hR)) (hs1.mono hR) ((ho.mono l1).mono hR) hm hds hN (fun R' K' hR' hM' => ?_) _ 0 R K rfl (by omega) (Le.refl _) hM
  unfold m80_2
  exact ⟨((l1.trans hR).trans hR').trans hM'.le, hM'.sl⟩
end
end

section
open Go

theorem Mx.push {R H H1 : Heap} {v w : Value} {mat : List (List (List Int))} {m : List (List Int)} {k : Value → Heap → Prop} (h : Mx R H v mat) (hl : Le H H1) (hw : Rw R H1 w m) (hnew : ∀ b, blkOf w = some b → H b = none) (hb : mat.length ≤ 1000) (hk : ∀ v' H', Mx R H' v' (mat ++ [m]) → k v' H') :
    p3Z ty27 27 1 [((0, 1), w)] H1 fun s H2 => p4Z ty27 27 v s H2 k := by
  obtain ⟨us, h1, h2, h3, h4⟩ := h
  have hg := h2.le hl
  have hwo : ∃ b n c, w = .slice b n c := by
    obtain ⟨ws, w1, w2, w3⟩ := hw
    obtain ⟨b, c, e, _⟩ := w2.2.1.read
    exact ⟨b, _, c, e⟩
  have hcells : w.cells.toList = [w] := by
    obtain ⟨b, n, c, rfl⟩ := hwo
    rfl
  refine append_own (te := ty27) hg.2.1 rfl (by obtain ⟨b, n, c, rfl⟩ := hwo; rfl) (fun c hc => by rw [hcells, List.mem_singleton] at hc; rw [hc]; exact hw.one) (by show 0 < 1; omega) (by show (mat.length + 1) * 24 ≤ _; omega) (by omega) fun s j cap hs hjs hj hc hc2 => hk _ _ ?_
  have hRj : R j = none := by
    rcases hj with hj | hj
    · exact hg.2.2 j hj
    · exact none_le hg.1 hj
  have hne : ∀ u q, Rw R H1 u q → blkOf u ≠ some j := fun u q hu e0 => by
    obtain ⟨_, _, _, h5⟩ := hu.blk e0
    rcases hj with hj | hj
    · obtain ⟨_, _, h6⟩ := hg.2.1.at_ hj
      rw [h5] at h6
      simp at h6
    · rw [hj] at h5
      cases h5
  have keep : ∀ u q, Rw R H1 u q → Rw R (hins (hins H1 s (.cells w.cells.toList (ty27).size 27 true)) j (.cells (us ++ w.cells.toList) (cap * (ty27).size) 27 true)) u q := fun u q hu => (hu.grow (Le.ins _ hs)).put_other hRj (hne u q hu) _
  have hul : us.length = mat.length := h1
  refine ⟨us ++ [w], by simp [h1], ⟨fun x c hx => ?_, .inr ⟨j, cap, by rw [List.length_append]; rfl, by rw [List.length_append]; exact hc, hc2, ?_, by simp [h1]⟩, fun x hx => by cases hx; exact hRj⟩, fun i u q hu hq => ?_, fun i i' u u' b hii hu hu' hb' => ?_⟩
  · rw [qOZ _ _ (fun e => by subst e; rw [hRj] at hx; cases hx)]
    exact hins_get hs (hg.1 x c hx)
  · rw [hins_self, hcells]
    rfl
  · by_cases c : i < us.length
    · rw [List.getElem?_append_left c] at hu
      rw [List.getElem?_append_left (by omega)] at hq
      exact keep u q ((h3 i u q hu hq).grow hl)
    · rw [List.getElem?_append_right (by omega)] at hu
      rw [List.getElem?_append_right (by omega)] at hq
      have e0 : i - us.length = 0 := by
        by_cases e0 : i - us.length = 0
        · exact e0
        · rw [List.getElem?_eq_none (by simp; omega)] at hu
          cases hu
      rw [e0] at hu
      rw [show i - mat.length = 0 by omega] at hq
      cases hu
      cases hq
      exact keep w m hw
  · have key : ∀ (z : Value) (x : Nat) (bb : Nat), us[x]? = some z → blkOf z = some bb → blkOf w ≠ some bb := fun z x bb hz hzb e0 => by
      have hx : x < us.length := (List.getElem?_eq_some_iff.1 hz).1
      obtain ⟨_, _, _, h5⟩ := (h3 x z (mat[x]'(by omega)) hz (List.getElem?_eq_getElem _)).blk hzb
      rw [hnew bb e0] at h5
      cases h5
    have last : ∀ (x : Nat) (z : Value), ¬ x < us.length → (us ++ [w])[x]? = some z → x = us.length ∧ z = w := fun x z hx hz => by
      rw [List.getElem?_append_right (by omega)] at hz
      by_cases e0 : x - us.length = 0
      · rw [e0] at hz
        cases hz
        exact ⟨by omega, rfl⟩
      · rw [List.getElem?_eq_none (by simp; omega)] at hz
        cases hz
    by_cases c : i < us.length
    · rw [List.getElem?_append_left c] at hu
      by_cases c' : i' < us.length
      · rw [List.getElem?_append_left c'] at hu'
        exact h4 i i' u u' b hii hu hu' hb'
      · obtain ⟨_, rfl⟩ := last i' u' c' hu'
        exact key u i b hu hb'
    · obtain ⟨e1, rfl⟩ := last i u c hu
      have c' : i' < us.length := by
        by_cases c' : i' < us.length
        · exact c'
        · obtain ⟨e2, _⟩ := last i' u' c' hu'
          omega
      rw [List.getElem?_append_left c'] at hu'
      exact fun e0 => key u' i' b hu' e0 hb'
section
variable {s : Scn} {cv dv tv ov v : Value} {rd : Int} {out mat : List (List (List Int))} {d : Dev} {i3 x : Nat}
end
end

section
open Go

def Sound (P : Prop) (H : Heap) : Ending → Heap → Prop := Ret fun v H' => Le H H' ∧ ∃ b : Bool, v = .bool b ∧ (b = true → P)
theorem sound_no {P : Prop} {H H' : Heap} (hl : Le H H') : Sound P H (.returned (.bool false)) H' := ⟨hl, false, rfl, fun h => by cases h⟩
theorem sound_yes {P : Prop} {H H' : Heap} (hl : Le H H') (h : P) : Sound P H (.returned (.bool true)) H' := ⟨hl, true, rfl, fun _ => h⟩
theorem gV_F {a b : Option Value} {v : Value} (h : a = some v) : gV (.bool false) false a b = some v := h
theorem gV_T {a b : Option Value} {v : Value} (h : a = some v) : gV (.bool true) true a b = some v := h
theorem qDZ {a : Option Value} (v : Value) : gV (.bool true) false a (some v) = some v := rfl
theorem qEZ {a : Option Value} (v : Value) : gV (.bool false) true a (some v) = some v := rfl
theorem qFZ (a b : Value) : pAZ (.bool true) a b = some a := rfl
theorem qGZ (a b : Value) : pAZ (.bool false) a b = some b := rfl
theorem qHZ {a b : Int} (h0 : -9223372036854775808 ≤ a + b) (h1 : a + b ≤ 9223372036854775807) : vInt .add (.int .i64 a) (.int .i64 b) = some (.int .i64 (a + b)) := by rw [vInt_add, pBZ h0 h1]
theorem qIZ {a b : Int} (h0 : -9223372036854775808 ≤ a - b) (h1 : a - b ≤ 9223372036854775807) : vInt .sub (.int .i64 a) (.int .i64 b) = some (.int .i64 (a - b)) := by rw [vInt_sub, pBZ h0 h1]
theorem Sl.row {α : Type} {e : El α} {H : Heap} {v : Value} {xs : List (List α)} (h : Sl (qXZ e) H v xs) {i : Nat} (hi : i < xs.length) {ti : TI} (ht : ti.agg = false) : ∃ p u, p1Z 1 v (.int .i64 i) = some p ∧ qWZ ti p H = some u ∧ Sl e H u xs[i] := by
  obtain ⟨p, u, h1, h2, h3⟩ := h.slice .i64 (i := (i : Int)) (by omega) (by omega) ht
  have e : xs.getD (i : Int).toNat [] = xs[i] := by simp [hi]
  rw [e] at h3
  exact ⟨p, u, h1, h2, h3⟩
theorem Sl.word {k : IntKind} {H : Heap} {v : Value} {xs : List Int} (h : Sl (eInt k) H v xs) {i : Nat} (hi : i < xs.length) {ti : TI} (ht : ti.agg = false) : ∃ p, p1Z 1 v (.int .i64 i) = some p ∧ qWZ ti p H = some (.int k xs[i]) := by
  obtain ⟨p, h1, h2⟩ := h.int .i64 (i := (i : Int)) (by omega) (by omega) ht
  have e : xs.getD (i : Int).toNat 0 = xs[i] := by simp [hi]
  rw [e] at h2
  exact ⟨p, h1, h2⟩
theorem all_take {α : Type} {P : α → Prop} {xs : List α} {k : Nat} (hk : k < xs.length) (h : ∀ x ∈ xs.take k, P x) (h1 : P xs[k]) : ∀ x ∈ xs.take (k + 1), P x := fun x hx => by
  rw [List.take_succ_eq_append_getElem hk] at hx
  rcases List.mem_append.1 hx with hx | hx
  · exact h x hx
  · rw [List.mem_singleton.1 hx]; exact h1
end

section
open Go

def hmix (R' R H : Heap) : Heap := fun i => match R' i, R i with
  | some c, _ => some c
  | none, some _ => none
  | none, none => H i
theorem hmix_new {R' R H : Heap} {i : Nat} {c : Blk} (h : R' i = some c) : hmix R' R H i = some c := by simp only [hmix, h]
theorem hmix_old {R' R H : Heap} {i : Nat} (h : R' i = none) (h2 : R i = none) : hmix R' R H i = H i := by simp only [hmix, h, h2]
theorem hmix_gone {R' R H : Heap} {i : Nat} {c : Blk} (h : R' i = none) (h2 : R i = some c) : hmix R' R H i = none := by simp only [hmix, h, h2]
theorem qVZ.frameR {P : Program} {f : FuncId} {args : List Value} {R H : Heap} {Q : Ending → Heap → Prop} (h : qVZ P f args R Q) (hl : Le R H) :
    qVZ P f args H (fun e H' => ∃ R', Q e R' ∧ Le R' H' ∧ (∀ i c, H i = some c → R i = none → H' i = some c) ∧ ∀ i, R' i ≠ none → R i ≠ none ∨ H i = none) := by
  refine ⟨h.1, fun w hs => (h.2 w (hs.le hl)).mono fun e w' hw => ?_⟩
  obtain ⟨R', s1, k1, q⟩ := hw
  have hR' : ∀ i, i < w.heap.size → R i = none → R' i = none := fun i hi hn => by
    cases he : R' i with
    | none => rfl
    | some b =>
      rcases k1.fresh i (by rw [he]; simp) with h2 | h2
      · exact absurd hn h2
      · omega
  have hlt : ∀ i c, H i = some c → i < w.heap.size := fun i c hc => hs.lt hc
  have hsat : Sat (hmix R' R H) w' := by
    intro i b hb
    cases hr : R' i with
    | some c =>
      rw [hmix_new hr] at hb
      cases hb
      exact s1 i _ hr
    | none =>
      cases hr2 : R i with
      | some c0 =>
        rw [hmix_gone hr hr2] at hb
        cases hb
      | none =>
        rw [hmix_old hr hr2] at hb
        obtain ⟨o, ho, hok⟩ := hs i b hb
        exact ⟨o, by rw [k1.old i (hlt i b hb) hr2]; exact ho, hok⟩
  have hkeep : Keeps H w (hmix R' R H) w' := by
    refine ⟨k1.os, k1.tape, k1.output, k1.size, fun i hi hn => k1.old i hi (none_le hl hn), fun i hi => ?_, fun i hi hro => ?_⟩
    · cases hr : R' i with
      | some c =>
        rcases k1.fresh i (by rw [hr]; simp) with h2 | h2
        · refine .inl ?_
          cases he : R i with
          | none => exact absurd he h2
          | some d => rw [hl i d he]; simp
        · exact .inr h2
      | none =>
        cases hr2 : R i with
        | some c => rw [hmix_gone hr hr2] at hi; exact absurd rfl hi
        | none => rw [hmix_old hr hr2] at hi; exact .inl hi
    · obtain ⟨cs, n, e, hc⟩ := hro
      cases hr2 : R i with
      | some c =>
        have e2 := hl i c hr2
        rw [hc] at e2
        cases e2
        obtain ⟨e1, h3⟩ := k1.ro i hi ⟨cs, n, e, hr2⟩
        refine ⟨e1, ?_⟩
        rcases h3 with h3 | ⟨cs', n', e', h3⟩
        · exact .inl (hmix_gone h3 hr2)
        · exact .inr ⟨cs', n', e', hmix_new h3⟩
      | none =>
        have h3 := hR' i hi hr2
        exact ⟨k1.old i hi hr2, .inr ⟨cs, n, e, by rw [hmix_old h3 hr2]; exact hc⟩⟩
  refine ⟨hmix R' R H, hsat, hkeep, R', q, fun i c hc => hmix_new hc, fun i c hc hn => ?_, fun i hi => ?_⟩
  · rw [hmix_old (hR' i (hlt i c hc) hn) hn]
    exact hc
  · rcases k1.fresh i hi with h2 | h2
    · exact .inl h2
    · exact .inr (hs.fresh h2)
theorem oRC_frame {P : Program} {f : FuncId} {args : List Value} {R H : Heap} {p : List PanicEntry → Heap → Prop} {k : Value → Heap → Prop} {R0 : Value → Heap → Prop} (h : qVZ P f args R (Ret R0)) (hl : Le R H)
    (hk : ∀ v R' H', R0 v R' → Le R' H' → (∀ i c, H i = some c → R i = none → H' i = some c) → (∀ i, R' i ≠ none → R i ≠ none ∨ H i = none) → k v H') : oRC P f args H p k :=
  (h.frameR hl).mono fun e H' he => by
    obtain ⟨R', h1, h2, h3, h4⟩ := he
    cases e with
    | returned v => exact hk v R' H' h1 h2 h3 h4
    | panicked c => exact h1.elim
    | outgrown => exact h1.elim
def Off (F : Nat → Prop) (H H' : Heap) : Prop := ∀ b c, H b = some c → ¬ F b → H' b = some c
theorem Off.refl (F : Nat → Prop) (H : Heap) : Off F H H := fun b c h _ => h
theorem Off.le {F : Nat → Prop} {R H H' : Heap} (h : Off F H H') (hl : Le R H) (h0 : ∀ b, F b → R b = none) : Le R H' := fun b c hb => h b c (hl b c hb) fun hf => by rw [h0 b hf] at hb; cases hb
theorem Off.of_le {F : Nat → Prop} {H H' : Heap} (h : Le H H') : Off F H H' := fun b c hb _ => h b c hb
def Wide (F : Nat → Prop) (H : Heap) (F' : Nat → Prop) : Prop := (∀ b, F b → F' b) ∧ ∀ b, F' b → F b ∨ H b = none
theorem Wide.refl (F : Nat → Prop) (H : Heap) : Wide F H F := ⟨fun b h => h, fun b h => .inl h⟩
theorem Wide.none {F F' : Nat → Prop} {R H : Heap} (h : Wide F H F') (h0 : ∀ b, F b → R b = none) (hl : Le R H) : ∀ b, F' b → R b = none := fun b hb => by
  rcases h.2 b hb with h1 | h1
  · exact h0 b h1
  · exact none_le hl h1
theorem Off.trans {F F' : Nat → Prop} {H H1 H2 : Heap} (h : Off F H H1) (hw : Wide F H F') (h' : Off F' H1 H2) : Off F H H2 := fun b c hb hn => h' b c (h b c hb hn) fun hf => by
  rcases hw.2 b hf with h1 | h1
  · exact hn h1
  · rw [hb] at h1; cases h1
theorem Wide.trans {F F' F'' : Nat → Prop} {H H1 : Heap} (hw : Wide F H F') (ho : Off F H H1) (hw' : Wide F' H1 F'') : Wide F H F'' := ⟨fun b hb => hw'.1 b (hw.1 b hb), fun b hb => by
  rcases hw'.2 b hb with h1 | h1
  · exact hw.2 b h1
  · by_cases hf : F b
    · exact .inl hf
    · refine .inr ?_
      cases he : H b with
      | none => rfl
      | some c => rw [ho b c he hf] at h1; cases h1⟩
def Cs {α : Type} (e : El α) (R : Heap) (cs : List Value) (xs : List α) : Prop := cs.length = xs.length * e.sz ∧ ∀ i x, xs[i]? = some x → e.rel R x ((cs.drop (i * e.sz)).take e.sz)
section
variable {α : Type} {e : El α} {R R' H : Heap} {cs c : List Value} {xs : List α} {x : α}
theorem Cs.nil (e : El α) (R : Heap) : Cs e R [] [] := ⟨by simp, fun i x h => by simp at h⟩
theorem Cs.mono (h : Cs e R cs xs) (hl : Le R R') : Cs e R' cs xs := ⟨h.1, fun i x hx => e.mono hl (h.2 i x hx)⟩
theorem Cs.snoc (h : Cs e R cs xs) (hr : e.rel R x c) : Cs e R (cs ++ c) (xs ++ [x]) := by
  have hc := e.len hr
  refine ⟨by rw [List.length_append, List.length_append, h.1, hc, List.length_singleton, Nat.add_mul, Nat.one_mul], fun i y hy => ?_⟩
  by_cases hi : i < xs.length
  · rw [List.getElem?_append_left hi] at hy
    have := h.2 i y hy
    have hb : i * e.sz + e.sz ≤ cs.length := by
      rw [h.1, ← Nat.succ_mul]
      exact Nat.mul_le_mul_right _ hi
    rw [List.drop_append_of_le_length (by omega), List.take_append_of_le_length (by rw [List.length_drop]; omega)]
    exact this
  · rw [List.getElem?_append_right (by omega)] at hy
    have e0 : i - xs.length = 0 := by
      by_cases e0 : i - xs.length = 0
      · exact e0
      · rw [List.getElem?_eq_none (by simp; omega)] at hy; cases hy
    rw [e0] at hy
    cases hy
    have hi' : i = xs.length := by omega
    subst hi'
    rw [← h.1, List.drop_left, ← hc, List.take_length]
    exact hr
theorem Cs.sl {t : TypeId} {v : Value} {n : Nat} (h : Cs e R cs xs) (hl : Le R H) (ho : Own e.sz t H v n cs) (hs : 0 < e.sz) : Sl e H v xs := by
  have hn : n = xs.length := by
    have h1 := ho.length
    rw [h.1] at h1
    exact (Nat.eq_of_mul_eq_mul_right hs h1).symm
  subst hn
  exact ho.sl fun i x hx => e.mono hl (h.2 i x hx)
end
def Nest (F : Nat → Prop) (sz : Nat) (ei eo : TypeId) (H : Heap) (v : Value) (rows : List (List Value)) : Prop := ∃ us : List Value, us.length = rows.length ∧ Own 1 eo H v rows.length us ∧ (∀ (j : Nat) u cs, us[j]? = some u → rows[j]? = some cs → ∃ n, Own sz ei H u n cs) ∧
  (∀ b, blkOf v = some b → F b) ∧ (∀ (j : Nat) u b, us[j]? = some u → blkOf u = some b → F b) ∧ ∀ (i j : Nat) u w b, i ≠ j → us[i]? = some u → us[j]? = some w → blkOf u = some b → blkOf w ≠ some b
section
variable {F F' : Nat → Prop} {sz : Nat} {ei eo : TypeId} {R H H' : Heap} {v : Value} {rows : List (List Value)} {j : Nat}
theorem Nest.keep (h : Nest F sz ei eo H v rows) (hk : ∀ b c, F b → H b = some c → H' b = some c) : Nest F sz ei eo H' v rows := by
  obtain ⟨us, h1, h2, h3, h4, h5, h6⟩ := h
  refine ⟨us, h1, h2.mono fun b hb => ?_, fun j u cs hu hc => ?_, h4, h5, h6⟩
  · obtain ⟨_, _, e⟩ := h2.at_ hb
    rw [e, hk b _ (h4 b hb) e]
  · obtain ⟨n, ho⟩ := h3 j u cs hu hc
    refine ⟨n, ho.mono fun b hb => ?_⟩
    obtain ⟨_, _, e⟩ := ho.at_ hb
    rw [e, hk b _ (h5 j u b hu hb) e]
theorem Nest.mono (h : Nest F sz ei eo H v rows) (hl : Le H H') : Nest F sz ei eo H' v rows := h.keep fun b c _ hb => hl b c hb
theorem Nest.len (h : Nest F sz ei eo H v rows) : vLen v = some (.int .i64 rows.length) := by
  obtain ⟨us, h1, h2, _⟩ := h
  exact h2.len
theorem Nest.max (h : Nest F sz ei eo H v rows) : rows.length ≤ 9223372036854775807 := by
  obtain ⟨us, h1, h2, _⟩ := h
  exact h2.max
theorem Nest.one (h : Nest F sz ei eo H v rows) : v.oneCell' = true := by
  obtain ⟨us, h1, h2, _⟩ := h
  rcases h2 with ⟨rfl, _⟩ | ⟨_, _, rfl, _⟩ <;> rfl
theorem Nest.get (h : Nest F sz ei eo H v rows) (hj : j < rows.length) : ∃ pt u n, p1Z 1 v (.int .i64 j) = some pt ∧ (∀ ti : TI, ti.agg = false → qWZ ti pt H = some u) ∧ Own sz ei H u n (rows.getD j []) ∧ ∀ b, blkOf u = some b → F b := by
  obtain ⟨us, h1, h2, h3, h4, h5, h6⟩ := h
  have hju : j < us.length := by omega
  obtain ⟨n, ho⟩ := h3 j us[j] rows[j] (List.getElem?_eq_getElem hju) (List.getElem?_eq_getElem hj)
  obtain ⟨pt, x, g1, g2, g3, _⟩ := (show Grown (fun _ => none) H 1 eo v rows.length us from ⟨fun i c hc => (by cases hc), h2, fun _ _ => rfl⟩).ix .i64 hj
  have e : x = us[j] := by
    rw [List.getElem?_eq_getElem hju] at g2
    exact (Option.some.inj g2).symm
  subst e
  refine ⟨pt, us[j], n, g1, g3, ?_, fun b hb => h5 j _ b (List.getElem?_eq_getElem hju) hb⟩
  have : rows.getD j [] = rows[j] := by simp [hj]
  rw [this]
  exact ho
theorem Nest.new {n : Nat} (h : Grown H H' 1 eo v n (List.replicate n (.slice none 0 0))) : Nest (fun b => blkOf v = some b) sz ei eo H' v (List.replicate n []) := by
  refine ⟨List.replicate n (.slice none 0 0), by simp, by simpa using h.2.1, fun j u cs hu hc => ?_, fun b hb => hb, fun j u b hu hb => ?_, fun i j u w b hij hu hw hb => ?_⟩
  · have hlt : j < n := by simpa using (List.getElem?_eq_some_iff.1 hu).1
    rw [List.getElem?_replicate, if_pos hlt] at hu hc
    cases hu
    cases hc
    exact ⟨0, Own.nil _ _ _⟩
  · rw [List.getElem?_replicate] at hu
    split at hu <;> cases hu
    cases hb
  · rw [List.getElem?_replicate] at hu
    split at hu <;> cases hu
    cases hb
theorem Nest.push {te : TI} {x : Value} (h : Nest F te.size ei eo H v rows) (hne : ei ≠ eo) (hj : j < rows.length) (hz : te.zero.cells.size = te.size) (hx : x.cells.size = te.size) (hx1 : ∀ c ∈ x.cells.toList, c.oneCell' = true) (hs : 0 < te.size)
    (hb : ∀ n, n * te.size = (rows.getD j []).length → (n + 1) * te.bytes ≤ 140737488355328 ∧ n + 1 ≤ 9223372036854775807) :
    ∃ pt u, p1Z 1 v (.int .i64 j) = some pt ∧ (∀ ti : TI, ti.agg = false → qWZ ti pt H = some u) ∧ ∀ k : Value → Heap → Prop,
      (∀ u' H1 H2 F', Off F H H1 → p2Z ⟨1, 24, .slice none 0 0, .slice ei, 0⟩ pt u' H1 = some H2 → u'.oneCell' = true → Nest F' te.size ei eo H2 v (rows.set j (rows.getD j [] ++ x.cells.toList)) → (∀ b, F' b → (F b → H b ≠ none) → H2 b ≠ none) → Wide F H F' → Off F H H2 → (∀ q cs m e w, H q = some (.cells cs m e w) → e ≠ ei → H1 q = some (.cells cs m e w)) → k u' H1) →
      p3Z te ei 1 [((0, te.size), x)] H fun s H1 => p4Z te ei u s H1 k := by
  obtain ⟨pt, u, n, g1, g2, g3, g4⟩ := h.get hj
  refine ⟨pt, u, g1, g2, fun k hk => ?_⟩
  have hn := g3.length
  obtain ⟨hb1, hb2⟩ := hb n hn.symm
  refine append_own g3 hz hx hx1 hs hb1 hb2 fun s j' cap hs' hjs hj' hc hc2 => ?_
  obtain ⟨us, h1, h2, h3, h4, h5, h6⟩ := h
  have hju : j < us.length := by omega
  have hxl : x.cells.toList.length = te.size := by simpa using hx
  -- the outer block
  rcases h2 with ⟨_, e0, _⟩ | ⟨jo, capo, rfl, o1, o2, o3, o4⟩
  · omega
  have hpt : pt = .pointer (some ⟨jo, j, none⟩) := by
    simp only [p1Z] at g1
    rw [if_pos (by omega)] at g1
    simpa using (Option.some.inj g1).symm
  subst hpt
  have hu : us[j]? = some u := by
    have := g2 ⟨1, 24, .slice none 0 0, .slice ei, 0⟩ rfl
    simp only [qWZ, o3] at this
    exact this
  have hjo : jo ≠ j' := by
    rintro rfl
    rcases hj' with e | e
    · obtain ⟨_, _, e2⟩ := g3.at_ e
      rw [o3] at e2
      cases e2
      exact hne rfl
    · rw [o3] at e; cases e
  have hjos : jo ≠ s := by rintro rfl; rw [o3] at hs'; cases hs'
  have off1 : ∀ b c, H b = some c → blkOf u ≠ some b → hins (hins H s (.cells x.cells.toList te.size ei true)) j' (.cells (rows.getD j [] ++ x.cells.toList) (cap * te.size) ei true) b = some c := by
    intro b c hbc hbu
    have e1 : b ≠ j' := by
      rintro rfl
      rcases hj' with e | e
      · exact hbu e
      · rw [hbc] at e; cases e
    rw [qOZ _ _ e1]
    exact hins_get hs' hbc
  have o3' := off1 jo _ o3 (fun e => by
    obtain ⟨_, _, e2⟩ := g3.at_ e
    rw [o3] at e2
    cases e2
    exact hne rfl)
  generalize hH1 : hins (hins H s (.cells x.cells.toList te.size ei true)) j' (.cells (rows.getD j [] ++ x.cells.toList) (cap * te.size) ei true) = H1 at off1 o3'
  have hj1 : H1 j' = some (.cells (rows.getD j [] ++ x.cells.toList) (cap * te.size) ei true) := by rw [← hH1]; exact hins_self _ _ _
  have own' : ∀ K : Heap, K j' = H1 j' → Own te.size ei K (.slice (some ⟨j', 0, none⟩) (n + 1) cap) (n + 1) (rows.getD j [] ++ x.cells.toList) := fun K hK =>
    .inr ⟨j', cap, rfl, hc, hc2, by rw [hK]; exact hj1, by rw [List.length_append, hn, hxl, Nat.succ_mul]⟩
  have offF : Off F H H1 := fun b c hbc hF => off1 b c hbc fun e => hF (g4 b e)
  have hst : p2Z ⟨1, 24, .slice none 0 0, .slice ei, 0⟩ (.pointer (some ⟨jo, j, none⟩)) (.slice (some ⟨j', 0, none⟩) (n + 1) cap) H1 = some (hins H1 jo (.cells (us.set j (.slice (some ⟨j', 0, none⟩) (n + 1) cap)) (capo * 1) eo true)) := by
    simp only [p2Z, o3', stCells]
    rw [if_neg (by simp [TI.agg]), if_pos (by refine ⟨?_, ?_, by omega⟩ <;> first | rfl | trivial)]
    rfl
  refine hk _ H1 _ (fun b => F b ∨ b = j') offF hst rfl ⟨us.set j (.slice (some ⟨j', 0, none⟩) (n + 1) cap), by simpa using h1, .inr ⟨jo, capo, by simp, by simpa using o1, o2, hins_self _ _ _, by simpa using o4⟩, fun k' u' cs hu' hcs => ?_, fun b hb' => .inl (h4 b hb'), fun k' u' b hu' hb' => ?_, fun i i' u1 u2 b hii hu1 hu2 hb' => ?_⟩ (fun b hb' hkn => ?_) ⟨fun b hb' => .inl hb', fun b hb' => ?_⟩ (fun b c hbc hF => ?_) (fun q cs m e w hq he => off1 q _ hq fun e2 => ?_)
  · by_cases e : j = k'
    · subst e
      rw [List.getElem?_set_self (by omega)] at hu' hcs
      cases hu'
      cases hcs
      exact ⟨n + 1, own' _ (qOZ _ _ (Ne.symm hjo))⟩
    · rw [List.getElem?_set_ne e] at hu' hcs
      obtain ⟨m, ho⟩ := h3 k' u' cs hu' hcs
      refine ⟨m, ho.mono fun b hb' => ?_⟩
      obtain ⟨_, _, e2⟩ := ho.at_ hb'
      have e3 : b ≠ jo := by
        rintro rfl
        rw [o3] at e2
        cases e2
        exact hne rfl
      rw [qOZ _ _ e3, e2]
      exact off1 b _ e2 fun e4 => h6 j k' u u' b e hu hu' e4 hb'
  · by_cases e : j = k'
    · subst e
      rw [List.getElem?_set_self (by omega)] at hu'
      cases hu'
      cases hb'
      exact .inr rfl
    · rw [List.getElem?_set_ne e] at hu'
      exact .inl (h5 k' u' b hu' hb')
  · have known : ∀ (k' : Nat) (w : Value) (b : Nat), us[k']? = some w → blkOf w = some b → H b ≠ none := fun k' w b hw hbw => by
      have hk' : k' < us.length := (List.getElem?_eq_some_iff.1 hw).1
      obtain ⟨m, ho⟩ := h3 k' w (rows[k']'(by omega)) hw (List.getElem?_eq_getElem _)
      obtain ⟨_, _, e2⟩ := ho.at_ hbw
      rw [e2]
      simp
    have fresh : ∀ (k' : Nat) (w : Value), k' ≠ j → us[k']? = some w → blkOf w ≠ some j' := fun k' w hkj hw e => by
      rcases hj' with e2 | e2
      · exact h6 j k' u w j' (Ne.symm hkj) hu hw e2 e
      · exact known k' w j' hw e e2
    by_cases e : j = i
    · subst e
      rw [List.getElem?_set_self (by omega)] at hu1
      rw [List.getElem?_set_ne hii] at hu2
      cases hu1
      cases hb'
      exact fresh i' u2 (Ne.symm hii) hu2
    · rw [List.getElem?_set_ne e] at hu1
      by_cases e' : j = i'
      · subst e'
        rw [List.getElem?_set_self (by omega)] at hu2
        cases hu2
        intro e3
        cases e3
        exact fresh i u1 hii hu1 hb'
      · rw [List.getElem?_set_ne e'] at hu2
        exact h6 i i' u1 u2 b hii hu1 hu2 hb'
  · by_cases e1 : b = jo
    · subst e1
      rw [hins_self]
      simp
    rw [qOZ _ _ e1]
    by_cases e2 : b = j'
    · subst e2
      rw [hj1]
      simp
    rcases hb' with hb' | hb'
    · rw [← hH1, qOZ _ _ e2]
      by_cases e3 : b = s
      · subst e3
        rw [hins_self]
        simp
      · rw [qOZ _ _ e3]
        exact hkn hb'
    · exact absurd hb' e2
  · rcases hb' with hb' | rfl
    · exact .inl hb'
    · rcases hj' with e | e
      · exact .inl (g4 _ e)
      · exact .inr e
  · have e1 : b ≠ jo := by
      rintro rfl
      exact hF (h4 _ rfl)
    rw [qOZ _ _ e1]
    exact offF b c hbc hF
  · obtain ⟨_, _, e3⟩ := g3.at_ e2
    rw [hq] at e3
    cases e3
    exact he rfl
end
end

section
open Go

theorem Le.put {R H : Heap} {i : Nat} {c : Blk} (h : Le R H) (hi : R i = none) : Le R (hins H i c) := fun j d hj => by
  rw [qOZ _ _ (fun e => by subst e; rw [hi] at hj; cases hj)]
  exact h j d hj
theorem New.le {R H H' N : Heap} (h : New H H' N) (hl : Le R H) : Le (hun R N) H' := hun_le (hl.trans h.1) h.2.1
theorem New.not {R H H' N : Heap} (h : New H H' N) {i : Nat} (hi : R i = none) (hk : H i ≠ none) : hun R N i = none := hun_none.2 ⟨hi, by
  cases he : N i with
  | none => rfl
  | some c => exact absurd (h.2.2 i (by rw [he]; simp)) hk⟩
theorem New.kn {H H' N : Heap} (h : New H H' N) {i : Nat} (hk : H i ≠ none) : H' i ≠ none := by
  cases he : H i with
  | none => exact absurd he hk
  | some c => rw [h.1 i c he]; simp
theorem New.right {R H H' N : Heap} (h : New H H' N) (hl : Le R H) : Le N (hun R N) := hun_right fun k hk => none_le hl (h.2.2 k hk)
theorem New.one {H : Heap} {i : Nat} {c : Blk} (hi : H i = none) : New H (hins H i c) (hone i c) := ⟨Le.ins _ hi, hone_le (hins_self _ _ _), fun k hk => by
  by_cases e : k = i
  · subst e; exact hi
  · simp [hone, e] at hk⟩
theorem Grown.made1 {H0 H : Heap} {t : TypeId} {v : Value} {n : Nat} {cs : List Value} (h : Grown H0 H 1 t v n cs) : ∃ N, New H0 H N ∧ Own 1 t N v n cs := by
  obtain ⟨hle, ho, hn⟩ := h
  rcases ho with ⟨rfl, h2, rfl⟩ | ⟨j, cap, rfl, h1, h2, h3, h4⟩
  · subst h2
    exact ⟨fun _ => none, ⟨hle, (fun i c h => nomatch h), fun i h => absurd rfl h⟩, Own.nil _ _ _⟩
  · refine ⟨hone j (.cells cs (cap * 1) t true), ⟨hle, hone_le h3, fun i hi => ?_⟩, .inr ⟨j, cap, rfl, h1, h2, by simp [hone], h4⟩⟩
    have : i = j := by
      unfold hone at hi
      split at hi
      · assumption
      · exact absurd rfl hi
    subst this
    exact hn i rfl
section
variable {R H : Heap} {k : Value → Heap → Prop}
theorem hone_ints {kd : IntKind} {i : Nat} {t : TypeId} {n : Nat} (xs : List Int) (h : xs.length ≤ 1000000) : Sl (eInt kd) (hone i (.cells (xs.map (.int kd)) n t true)) (.slice (some ⟨i, 0, none⟩) xs.length xs.length) xs := by
  have e : hone i (.cells (xs.map (.int kd)) n t true) = hins (fun _ => none) i (.cells (xs.map (.int kd)) n t true) := rfl
  rw [e]
  refine ⟨some ⟨i, 0, none⟩, xs.length, xs.map (.int kd), rfl, Nat.le_refl _, by omega, rdSlice_ins (by show _ = xs.length * 1; simp), fun j x hx => ?_⟩
  exact one_get _ j (.int kd x) (by rw [List.getElem?_map, hx]; rfl)
theorem lit1 (a : Int) (hk : ∀ v H' N, New H H' N → Sl (eInt .u64) N v [a] → k v H') : p3Z ty22 22 1 [((0, 1), .int .u64 a)] H k := by
  show oNew (([a] : List Int).map (.int .u64)) 1 22 H _
  intro i hi
  exact hk _ _ _ (New.one hi) (hone_ints [a] (by simp))
theorem lit2 (a b : Int) (hk : ∀ v H' N, New H H' N → Sl (eInt .u64) N v [a, b] → k v H') : p3Z ty22 22 2 [((0, 1), .int .u64 a), ((1, 1), .int .u64 b)] H k := by
  show oNew (([a, b] : List Int).map (.int .u64)) 2 22 H _
  intro i hi
  exact hk _ _ _ (New.one hi) (hone_ints [a, b] (by simp))
theorem lit4r {u1 u2 u3 u4 : Value} {r1 r2 r3 r4 : List Int} (hl : Le R H) (h1 : Sl (eInt .u64) R u1 r1) (h2 : Sl (eInt .u64) R u2 r2) (h3 : Sl (eInt .u64) R u3 r3) (h4 : Sl (eInt .u64) R u4 r4) (hk : ∀ v H' N, New H H' N → Sl (qXZ (eInt .u64)) (hun R N) v [r1, r2, r3, r4] → k v H') :
    p3Z ty52 52 4 [((0, 1), u1), ((1, 1), u2), ((2, 1), u3), ((3, 1), u4)] H k := by
  obtain ⟨b1, c1, _, rfl, _⟩ := id h1
  obtain ⟨b2, c2, _, rfl, _⟩ := id h2
  obtain ⟨b3, c3, _, rfl, _⟩ := id h3
  obtain ⟨b4, c4, _, rfl, _⟩ := id h4
  show oNew [.slice b1 r1.length c1, .slice b2 r2.length c2, .slice b3 r3.length c3, .slice b4 r4.length c4] 4 52 H _
  intro i hi
  have hN := New.one (c := .cells [.slice b1 r1.length c1, .slice b2 r2.length c2, .slice b3 r3.length c3, .slice b4 r4.length c4] 4 52 true) hi
  refine hk _ _ _ hN ?_
  have hRi := none_le hl hi
  refine ⟨some ⟨i, 0, none⟩, 4, _, rfl, Nat.le_refl _, by simp, rdSlice_mono (hN.right hl) (rdSlice_ins (H := fun _ => none) (m := 4) rfl), fun j x hx => ?_⟩
  have one : ∀ (u : Value) (r : List Int), Sl (eInt .u64) R u r → ([.slice b1 r1.length c1, .slice b2 r2.length c2, .slice b3 r3.length c3, .slice b4 r4.length c4] : List Value)[j]? = some u → (qXZ (eInt .u64)).rel (hun R (hone i (.cells [.slice b1 r1.length c1, .slice b2 r2.length c2, .slice b3 r3.length c3, .slice b4 r4.length c4] 4 52 true))) r ((([.slice b1 r1.length c1, .slice b2 r2.length c2, .slice b3 r3.length c3, .slice b4 r4.length c4] : List Value).drop (j * 1)).take 1) := fun u r hu he => ⟨u, one_get _ j u he, hu.mono (qNZ _ _)⟩
  match j, hx with
  | 0, hx => cases hx; exact one _ _ h1 rfl
  | 1, hx => cases hx; exact one _ _ h2 rfl
  | 2, hx => cases hx; exact one _ _ h3 rfl
  | 3, hx => cases hx; exact one _ _ h4 rfl
end
theorem rd_sub {sz n l m i off : Nat} {H : Heap} {cs : List Value} (h : rdSlice sz H (some ⟨i, off, none⟩) n = some cs) (hlm : l + m ≤ n) : rdSlice sz H (some ⟨i, off + l * sz, none⟩) m = some ((cs.drop (l * sz)).take (m * sz)) := by
  by_cases hm : m = 0
  · subst hm
    simp [rdSlice]
  have hn : n ≠ 0 := by omega
  simp only [rdSlice, if_neg hn, if_neg hm] at h ⊢
  unfold rdCells at h ⊢
  split at h
  · rename_i bs n' e wr hi
    split at h
    · rename_i hb
      cases h
      have h1 : (l + m) * sz ≤ n * sz := Nat.mul_le_mul_right _ hlm
      rw [Nat.add_mul] at h1
      rw [if_pos (by omega), List.drop_take, List.drop_drop, List.take_take]
      congr 2
      omega
    · cases h
  · cases h
theorem splice_zero (cs vs : List Value) : splice cs (0 + 0) vs = vs ++ cs.drop vs.length := by simp [splice]
theorem oCopy_own {H0 H : Heap} {w v : Value} {xs zs : List Int} {n : Nat} {k : Value → Heap → Prop} (hg : Grown H0 H 1 22 w n (zs.map (.int .u64))) (hz : zs.length = n) (hv : Sl (eInt .u64) H v xs)
    (hk : ∀ H', Grown H0 H' 1 22 w n ((xs.take n ++ zs.drop xs.length).map (.int .u64)) → k (.int .i64 ((min xs.length n : Nat) : Int)) H') : oCopy ty22 w v H k := by
  obtain ⟨b, cap, rfl, c1, c2, c3⟩ := hv.ints
  obtain ⟨hle, ho, hn⟩ := hg
  have triv : min xs.length n = 0 → zs = xs.take n ++ zs.drop xs.length := fun hm => by
    by_cases e : xs = []
    · subst e; simp
    · have hp : 0 < xs.length := List.length_pos_iff.2 e
      have h0 : n = 0 := by omega
      subst h0
      rw [List.eq_nil_of_length_eq_zero hz]
      simp
  rcases ho with ⟨rfl, rfl, e⟩ | ⟨j, dc, rfl, h1, h2, h3, h4⟩
  · refine ⟨[], by simp [rdSlice], by simp, ?_⟩
    simp only [oRoom, if_true]
    refine hk H ⟨hle, ?_, hn⟩
    rw [← triv (by omega), e]
    exact Own.nil _ _ _
  · by_cases hm : min xs.length n = 0
    · refine ⟨[], by rw [hm]; simp [rdSlice], by simp, ?_⟩
      simp only [oRoom, if_true]
      refine hk H ⟨hle, ?_, hn⟩
      rw [← triv hm]
      exact .inr ⟨j, dc, rfl, h1, h2, h3, h4⟩
    · have hx : xs.length ≠ 0 := by omega
      cases b with
      | none => simp only [rdSlice, if_neg hx] at c3; cases c3
      | some a =>
        obtain ⟨i, off, sp⟩ := a
        cases sp with
        | some _ => simp only [rdSlice, if_neg hx] at c3; cases c3
        | none =>
          have hr := rd_sub (l := 0) (m := min xs.length n) c3 (by omega)
          simp only [Nat.zero_mul, Nat.add_zero, List.drop_zero, Nat.mul_one] at hr
          refine ⟨_, hr, fun v hv => ?_, ?_⟩
          · obtain ⟨x, _, rfl⟩ := List.mem_map.1 (List.mem_of_mem_take hv)
            rfl
          · have hne : (xs.map (Value.int .u64)).take (min xs.length n) ≠ [] := fun e => by
              have := congrArg List.length e
              simp only [List.length_take, List.length_map, List.length_nil] at this
              omega
            simp only [oRoom, if_neg hne, h3]
            have hlen : ((xs.map (Value.int .u64)).take (min xs.length n)).length = min xs.length n := by simp
            refine ⟨by omega, by rw [hlen]; omega, ?_⟩
            have e : splice (zs.map (Value.int .u64)) (0 + 0) ((xs.map (Value.int .u64)).take (min xs.length n)) = (xs.take n ++ zs.drop xs.length).map (.int .u64) := by
              rw [splice_zero, hlen, List.map_append, List.map_take, List.map_drop]
              by_cases hc : xs.length ≤ n
              · rw [Nat.min_eq_left hc, List.take_of_length_le (by simp), List.take_of_length_le (by simpa using hc)]
              · rw [Nat.min_eq_right (by omega), List.drop_of_length_le (by simp; omega), List.drop_of_length_le (by simp; omega)]
            rw [e]
            refine hk _ ⟨?_, .inr ⟨j, dc, rfl, h1, h2, hins_self _ _ _, ?_⟩, hn⟩
            · exact hle.put (hn j rfl)
            · simp only [List.length_map, List.length_append, List.length_take, List.length_drop]
              omega
def rsz (xs : List Int) (n : Nat) : List Int := xs.take n ++ List.replicate (n - xs.length) 0
theorem rsz_len (xs : List Int) (n : Nat) : (rsz xs n).length = n := by simp [rsz]; omega
theorem rsz_rng {p : Int} {xs : List Int} (h : rng p xs) (hp : 0 < p) (n : Nat) : rng p (rsz xs n) := fun x hx => by
  rcases List.mem_append.1 hx with hx | hx
  · exact h x (List.mem_of_mem_take hx)
  · rw [(List.mem_replicate.1 hx).2]; omega
theorem resize_spec {H : Heap} {v : Value} {xs : List Int} {n : Nat} (hv : Sl (eInt .u64) H v xs) (hn : n ≤ 1000000) : qVZ Tryd.prog 49 [v, .int .i64 n] H (Ret fun w H' => Grown H H' 1 22 w n ((rsz xs n).map (.int .u64))) := by
  apply call49
  unfold m49
  refine oMake_own (te := ty22) rfl (by show 8 * n ≤ _; omega) (by omega) fun w H2 hg => ?_
  rw [zerosL_one rfl] at hg
  have e : List.replicate n (ty22).zero = (List.replicate n (0 : Int)).map (.int .u64) := by rw [List.map_replicate]; rfl
  rw [e] at hg
  refine oCopy_own hg (by simp) (hv.mono hg.1) fun H' hg' => ?_
  rw [List.drop_replicate] at hg'
  exact hg'
theorem vBound_nat {y x : Nat} {k : IntKind} (hx : x ≤ y) : vBound y (.int k (x : Int)) = some x := by simp [vBound, hx]
theorem Sl.addr {α : Type} {e : El α} {H : Heap} {v : Value} {xs : List α} (h : Sl e H v xs) (h0 : 0 < xs.length) : ∃ i off cap cs, v = .slice (some ⟨i, off, none⟩) xs.length cap ∧ xs.length ≤ cap ∧ xs.length ≤ 9223372036854775807 ∧ rdSlice e.sz H (some ⟨i, off, none⟩) xs.length = some cs ∧
    ∀ i x, xs[i]? = some x → e.rel H x ((cs.drop (i * e.sz)).take e.sz) := by
  obtain ⟨bb, cap, cs, rfl, h2, h3, h4, h5⟩ := h
  have hx : xs.length ≠ 0 := by omega
  cases bb with
  | none => simp only [rdSlice, if_neg hx] at h4; cases h4
  | some ad =>
    obtain ⟨i, off, sp⟩ := ad
    cases sp with
    | some _ => simp only [rdSlice, if_neg hx] at h4; cases h4
    | none => exact ⟨i, off, cap, cs, rfl, h2, h3, h4, h5⟩
theorem Sl.sub {α : Type} {e : El α} {H : Heap} {xs : List α} {i off m : Nat} {cs : List Value} {a b : Nat} (hab : a ≤ b) (hb : b ≤ xs.length) (h2 : b ≤ m) (h3 : xs.length ≤ 9223372036854775807) (h4 : rdSlice e.sz H (some ⟨i, off, none⟩) xs.length = some cs) (h5 : ∀ i x, xs[i]? = some x → e.rel H x ((cs.drop (i * e.sz)).take e.sz)) :
    Sl e H (.slice (some ⟨i, if m = a then off else off + a * e.sz, none⟩) (b - a) (m - a)) ((xs.drop a).take (b - a)) := by
  have hlen : ((xs.drop a).take (b - a)).length = b - a := by simp; omega
  refine ⟨some ⟨i, if m = a then off else off + a * e.sz, none⟩, m - a, (cs.drop (a * e.sz)).take ((b - a) * e.sz), by rw [hlen], by omega, by omega, ?_, fun j x hx => ?_⟩
  · rw [hlen]
    by_cases hc : m = a
    · have : b - a = 0 := by omega
      rw [this]
      simp [rdSlice]
    · rw [if_neg hc]
      exact rd_sub h4 (by omega)
  · rw [List.getElem?_take] at hx
    split at hx
    · rename_i hj
      rw [List.getElem?_drop] at hx
      have := h5 _ x hx
      have hje : (j + 1) * e.sz ≤ (b - a) * e.sz := Nat.mul_le_mul_right _ hj
      rw [Nat.succ_mul] at hje
      rw [List.drop_take, List.drop_drop, List.take_take, Nat.min_eq_left (by omega), ← Nat.add_mul]
      exact this
    · cases hx
theorem Sl.part {α : Type} {e : El α} {H : Heap} {v : Value} {xs : List α} (h : Sl e H v xs) (h0 : 0 < xs.length) {a b : Nat} {k1 k2 : IntKind} (hab : a ≤ b) (hb : b ≤ xs.length) : ∃ w, vSlice e.sz v (some (.int k1 a)) (some (.int k2 b)) none = some w ∧ Sl e H w ((xs.drop a).take (b - a)) := by
  obtain ⟨i, off, cap, cs, rfl, h2, h3, h4, h5⟩ := h.addr h0
  exact ⟨_, by simp only [vSlice, Option.bind_some, vBound_nat (show b ≤ cap by omega), vBound_nat hab], Sl.sub hab hb (show b ≤ cap by omega) h3 h4 h5⟩
theorem Sl.part3 {α : Type} {e : El α} {H : Heap} {v : Value} {xs : List α} (h : Sl e H v xs) (h0 : 0 < xs.length) {a b : Nat} {k1 k2 k3 : IntKind} (hab : a ≤ b) (hb : b ≤ xs.length) : ∃ w, vSlice e.sz v (some (.int k1 a)) (some (.int k2 b)) (some (.int k3 b)) = some w ∧ Sl e H w ((xs.drop a).take (b - a)) := by
  obtain ⟨i, off, cap, cs, rfl, h2, h3, h4, h5⟩ := h.addr h0
  exact ⟨_, by simp only [vSlice, Option.bind_some, vBound_nat (show b ≤ cap by omega), vBound_nat (Nat.le_refl b), vBound_nat hab], Sl.sub hab hb (Nat.le_refl b) h3 h4 h5⟩
theorem Sl.from {α : Type} {e : El α} {H : Heap} {v : Value} {xs : List α} (h : Sl e H v xs) (h0 : 0 < xs.length) {a : Nat} {k1 : IntKind} (ha : a ≤ xs.length) : ∃ w, vSlice e.sz v (some (.int k1 a)) none none = some w ∧ Sl e H w (xs.drop a) := by
  obtain ⟨i, off, cap, cs, rfl, h2, h3, h4, h5⟩ := h.addr h0
  have := Sl.sub ha (Nat.le_refl _) h2 h3 h4 h5
  rw [List.take_of_length_le (by simp)] at this
  exact ⟨_, by simp only [vSlice, Option.bind_some, vBound_nat ha, Option.isSome_none, Bool.false_eq_true, if_false], this⟩
theorem Sl.upto {α : Type} {e : El α} {H : Heap} {v : Value} {xs : List α} (h : Sl e H v xs) (h0 : 0 < xs.length) {b : Nat} {k2 : IntKind} (hb : b ≤ xs.length) : ∃ w, vSlice e.sz v none (some (.int k2 b)) none = some w ∧ Sl e H w (xs.take b) := by
  obtain ⟨i, off, cap, cs, rfl, h2, h3, h4, h5⟩ := h.addr h0
  have := Sl.sub (Nat.zero_le b) hb (show b ≤ cap by omega) h3 h4 h5
  rw [List.drop_zero, Nat.sub_zero] at this
  exact ⟨_, by simp only [vSlice, Option.bind_some, vBound_nat (show b ≤ cap by omega)]; rfl, by simpa using this⟩
theorem vStore_le {ti : TI} {p x : Value} {K K' H : Heap} (h : p2Z ti p x K = some K') (hl : Le K H) : ∃ H', p2Z ti p x H = some H' ∧ Le K' H' ∧ (∀ i c, H i = some c → K i = none → H' i = some c) ∧ ∀ i, K' i ≠ none → K i ≠ none := by
  unfold p2Z at h
  split at h
  · rename_i i off
    cases hc : K i with
    | none => rw [hc] at h; cases h
    | some b =>
      rw [hc] at h
      cases b with
      | obj o => cases h
      | cells cs n e wr =>
        cases wr with
        | false => cases h
        | true =>
          simp only at h
          obtain ⟨cs', hcs, rfl⟩ := Option.map_eq_some_iff.1 h
          refine ⟨hins H i (.cells cs' n e true), ?_, fun j c hj => ?_, fun j c hj hn => ?_, fun j hj => ?_⟩
          · simp only [p2Z, hl i _ hc, hcs]
            rfl
          · by_cases e : j = i
            · subst e; rw [hins_self] at hj ⊢; exact hj
            · rw [qOZ _ _ e] at hj ⊢; exact hl j c hj
          · rw [qOZ _ _ (fun e => by subst e; rw [hc] at hn; cases hn)]
            exact hj
          · by_cases e : j = i
            · subst e; rw [hc]; simp
            · rwa [qOZ _ _ e] at hj
  · cases h
theorem lit_cs {α : Type} {e : El α} {R H : Heap} {cs : List Value} {xs : List α} {t : TypeId} (h : Cs e R cs xs) (hx : xs.length ≤ 1000000) {i : Nat} (hl : Le R H) (hi : H i = none) : Sl e (hun R (hone i (.cells cs (xs.length * e.sz) t true))) (.slice (some ⟨i, 0, none⟩) xs.length xs.length) xs := by
  have hR := (New.one (c := .cells cs (xs.length * e.sz) t true) hi).right hl
  refine ⟨some ⟨i, 0, none⟩, xs.length, cs, rfl, Nat.le_refl _, by omega, rdSlice_mono hR (rdSlice_ins (H := fun _ => none) h.1), fun j x hj => e.mono (qNZ _ _) (h.2 j x hj)⟩
end

section
open Go

structure GL (H : Heap) : Prop where
  g0 : ∃ n e w, H 0 = some (.cells [.int .i64 5, .int .i64 7, .int .i64 13, .int .i64 17, .int .i64 19, .int .i64 31, .int .i64 61] n e w)
theorem GL.mono {H G : Heap} (h : GL H) (hl : Le H G) : GL G := by
  obtain ⟨n, e, w, h0⟩ := h.g0
  exact ⟨n, e, w, hl _ _ h0⟩
theorem fexponent_spec {H : Heap} (hg : GL H) (p : Int) : qVZ Tryd.prog 148 [.int .u64 p] H (Val (.int .i64 (expo p)) H) := by
  apply call148
  unfold m148 m148_2
  obtain ⟨n, e, w, h1⟩ := hg.g0
  have ld : qWZ ty182 (.pointer (some ⟨0, 0, none⟩)) H = some (.agg #[.int .i64 5, .int .i64 7, .int .i64 13, .int .i64 17, .int .i64 19, .int .i64 31, .int .i64 61]) := by
    simp only [qWZ, h1]
    rfl
  refine qQZ ld ?_
  apply L148_3_round
  unfold m148_4
  refine qQZ (v := .bool true) rfl (qMZ (qQZ (v := .int .i64 5) rfl (qQZ (v := .int .u64 32) rfl (qQZ (v := .int .u64 31) rfl (qQZ (q5Z _ _ _) (qJZ (fun h => ⟨by rw [h]; rfl, rfl⟩) (fun c0 => qQZ (v := .int .i64 1) rfl ?_)))))))
  apply L148_3_round
  unfold m148_4
  refine qQZ (v := .bool true) rfl (qMZ (qQZ (v := .int .i64 7) rfl (qQZ (v := .int .u64 128) rfl (qQZ (v := .int .u64 127) rfl (qQZ (q5Z _ _ _) (qJZ (fun h => ⟨by rw [h]; rfl, rfl⟩) (fun c1 => qQZ (v := .int .i64 2) rfl ?_)))))))
  apply L148_3_round
  unfold m148_4
  refine qQZ (v := .bool true) rfl (qMZ (qQZ (v := .int .i64 13) rfl (qQZ (v := .int .u64 8192) rfl (qQZ (v := .int .u64 8191) rfl (qQZ (q5Z _ _ _) (qJZ (fun h => ⟨by rw [h]; rfl, rfl⟩) (fun c2 => qQZ (v := .int .i64 3) rfl ?_)))))))
  apply L148_3_round
  unfold m148_4
  refine qQZ (v := .bool true) rfl (qMZ (qQZ (v := .int .i64 17) rfl (qQZ (v := .int .u64 131072) rfl (qQZ (v := .int .u64 131071) rfl (qQZ (q5Z _ _ _) (qJZ (fun h => ⟨by rw [h]; rfl, rfl⟩) (fun c3 => qQZ (v := .int .i64 4) rfl ?_)))))))
  apply L148_3_round
  unfold m148_4
  refine qQZ (v := .bool true) rfl (qMZ (qQZ (v := .int .i64 19) rfl (qQZ (v := .int .u64 524288) rfl (qQZ (v := .int .u64 524287) rfl (qQZ (q5Z _ _ _) (qJZ (fun h => ⟨by rw [h]; rfl, rfl⟩) (fun c4 => qQZ (v := .int .i64 5) rfl ?_)))))))
  apply L148_3_round
  unfold m148_4
  refine qQZ (v := .bool true) rfl (qMZ (qQZ (v := .int .i64 31) rfl (qQZ (v := .int .u64 2147483648) rfl (qQZ (v := .int .u64 2147483647) rfl (qQZ (q5Z _ _ _) (qJZ (fun h => ⟨by rw [h]; rfl, rfl⟩) (fun c5 => qQZ (v := .int .i64 6) rfl ?_)))))))
  apply L148_3_round
  unfold m148_4
  refine qQZ (v := .bool true) rfl (qMZ (qQZ (v := .int .i64 61) rfl (qQZ (v := .int .u64 2305843009213693952) rfl (qQZ (v := .int .u64 2305843009213693951) rfl (qQZ (q5Z _ _ _) (qJZ (fun h => ⟨by rw [h]; rfl, rfl⟩) (fun c6 => qQZ (v := .int .i64 7) rfl ?_)))))))
  apply L148_3_round
  unfold m148_4
  refine qQZ (v := .bool false) rfl (qLZ ?_)
  unfold m148_1
  exact ⟨by simp [expo, *], rfl⟩
theorem fsupported_spec {H : Heap} (hg : GL H) (p : Int) : qVZ Tryd.prog 140 [.int .u64 p] H (Val (.bool (decide (Supp p))) H) := by
  apply call140
  unfold m140
  refine oRC_val (fexponent_spec hg p) (qQZ (q6Z _ _ _) ⟨?_, rfl⟩)
  congr 1
  refine decide_eq_decide.2 ((?_ : expo p ≠ 0 ↔ 0 < expo p).trans (expo_pos p))
  have : 0 ≤ expo p := by unfold expo; repeat' split <;> omega
  omega
theorem oCl_ret {X : Externs} {P : Program} {fid : FuncId} {first cap : Array Value} {args : List Value} {H : Heap} {p : List PanicEntry → Heap → Prop} {k : Value → Heap → Prop} {R : Value → Heap → Prop} (hx : X fid = none) (h : qVZ P fid (first.toList ++ args ++ cap.toList) H (Ret R)) (hk : ∀ v H', R v H' → k v H') :
    oCl X P (.func (.func fid) first cap) args H p k := by
  have := p9Z (p := p) h hk
  unfold oCl oCall
  simp only [hx]
  exact this
def Dec (P : Prop) (H : Heap) : Ending → Heap → Prop := Ret fun v H' => Le H H' ∧ ∃ b : Bool, v = .bool b ∧ (b = true ↔ P)
theorem dec_no {P : Prop} {H H' : Heap} (hl : Le H H') (h : ¬ P) : Dec P H (.returned (.bool false)) H' := ⟨hl, false, rfl, ⟨fun e => (by cases e), fun e => absurd e h⟩⟩
theorem dec_yes {P : Prop} {H H' : Heap} (hl : Le H H') (h : P) : Dec P H (.returned (.bool true)) H' := ⟨hl, true, rfl, ⟨fun _ => h, fun _ => rfl⟩⟩
theorem dec_dec {P C : Prop} [Decidable C] {H H' : Heap} (hl : Le H H') (h : C ↔ P) : Dec P H (.returned (.bool (decide C))) H' := ⟨hl, _, rfl, by rw [decide_eq_true_iff]; exact h⟩
theorem below_spec {H : Heap} {p : Int} {v : Value} {ws : List Int} (hv : Sl (eInt .u64) H v ws) : qVZ Tryd.prog 65 [.int .u64 p, v] H (Dec (∀ x ∈ ws, x < p) H) := by
  have hm := hv.max
  apply call65
  unfold m65 m65_2
  have key : ∀ (d i : Nat), ws.length - i = d → i ≤ ws.length → (∀ x ∈ ws.take i, x < p) → L65_3 (.int .u64 p) v (.int .i64 i) H (fun H_7 => m65_1 H_7 (Dec (∀ x ∈ ws, x < p) H)) (Dec (∀ x ∈ ws, x < p) H) := by
    intro d
    induction d with
    | zero =>
      intro i hd hi ha
      apply L65_3_round
      unfold m65_4
      refine qQZ hv.len (qQZ (q7Z _ _ _) (qJZ (fun hlt => absurd hlt (by omega)) (fun _ => ?_)))
      unfold m65_1
      rw [List.take_of_length_le (by omega)] at ha
      exact dec_yes (Le.refl _) ha
    | succ d ih =>
      intro i hd hi ha
      apply L65_3_round
      unfold m65_4
      refine qQZ hv.len (qQZ (q7Z _ _ _) (qJZ (fun hlt => ?_) (fun hlt => absurd (by omega) hlt)))
      have hil : i < ws.length := by omega
      obtain ⟨q, f1, f2⟩ := hv.int .i64 (i := (i : Int)) (by omega) (by omega) (ti := ty22) rfl
      have e : ws.getD (i : Int).toNat 0 = ws[i] := by simp [hil]
      rw [e] at f2
      refine qQZ f1 (qQZ f2 (qQZ (q0Z _ _ _) (qJZ (fun c => dec_no (Le.refl _) fun h => ?_) (fun c => qQZ (vInt_add _ _ _) ?_))))
      · have := h _ (List.getElem_mem hil)
        omega
      rw [pBZ (by omega) (by omega)]
      refine ih (i + 1) (by omega) (by omega) fun x hx => ?_
      rw [List.take_succ_eq_append_getElem hil] at hx
      rcases List.mem_append.1 hx with hx | hx
      · exact ha x hx
      · rw [List.mem_singleton.1 hx]
        omega
  exact key _ 0 rfl (by omega) (by simp)
structure PAt (H : Heap) (i : Nat) (s : Scn) : Prop where
  blk : H i = some (.cells [.int .u64 s.P, .int .i64 s.N, .int .i64 s.T] 3 24 true)
def parOk (s : Scn) : Prop := Supp s.P ∧ 4 ≤ s.N ∧ s.N ≤ 13 ∧ s.N < s.P ∧ 1 ≤ s.T ∧ s.T < s.N ∧ 3 * s.T < s.N
section
variable {H G : Heap} {i : Nat} {s : Scn}
theorem PAt.mono (h : PAt H i s) (hl : Le H G) : PAt G i s := ⟨hl _ _ h.blk⟩
theorem PAt.p (h : PAt H i s) : qWZ ty22 (.pointer (some ⟨i, 0, none⟩)) H = some (.int .u64 s.P) := by simp only [qWZ, h.blk]; rfl
theorem PAt.n (h : PAt H i s) : qWZ ty3 (.pointer (some ⟨i, 1, none⟩)) H = some (.int .i64 s.N) := by simp only [qWZ, h.blk]; rfl
theorem PAt.t (h : PAt H i s) : qWZ ty3 (.pointer (some ⟨i, 2, none⟩)) H = some (.int .i64 s.T) := by simp only [qWZ, h.blk]; rfl
theorem PAt.all (h : PAt H i s) : qWZ ty24 (qTZ i) H = some (parVal s) := by simp only [qWZ, qTZ, h.blk]; rfl
theorem par_new {k : Nat → Heap → Prop} (s : Scn) (hk : ∀ i H', Le H H' → PAt H' i s → k i H') : oNew (parVal s).cells.toList (parVal s).cells.toList.length 24 H k := by
  show oNew [.int .u64 s.P, .int .i64 s.N, .int .i64 s.T] 3 24 H _
  intro i hi
  exact hk i _ (Le.ins _ hi) ⟨hins_self _ _ _⟩

theorem valid_spec (H : Heap) (s : Scn) : qVZ Tryd.prog 90 [parVal s] H (Dec (parOk s) H) := by
  apply call90
  unfold m90
  refine par_new s fun i H1 l1 hs => ?_
  refine qQZ (q1Z _ _) (qQZ hs.p (oRC_grow (supported_spec H1 s.P) fun H2 l2 => ?_))
  replace hs := hs.mono l2
  have l := l1.trans l2
  by_cases hp : Supp s.P
  case neg =>
    rw [decide_eq_false hp]
    exact dec_no l fun h => hp h.1
  rw [decide_eq_true hp]
  refine qQZ (v := .pointer (some ⟨i, 1, none⟩)) rfl (qQZ (v := .int .i64 s.N) hs.n (qQZ (v := .bool (decide (4 ≤ s.N))) (q0Z .i64 s.N 4) (qQZ (v := .bool (decide (4 ≤ s.N))) rfl ?_)))
  by_cases c1 : 4 ≤ s.N
  case neg =>
    rw [decide_eq_false c1]
    exact dec_no l (fun h => by obtain ⟨_, h1, h2, h3, h4, h5, h6⟩ := h; omega)
  rw [decide_eq_true c1]
  refine qQZ (v := .pointer (some ⟨i, 1, none⟩)) rfl (qQZ (v := .int .i64 s.N) hs.n (qQZ (v := .bool (decide (s.N ≤ 13))) (q8Z .i64 s.N 13) (qQZ (v := .bool (decide (s.N ≤ 13))) rfl ?_)))
  by_cases c2 : s.N ≤ 13
  case neg =>
    rw [decide_eq_false c2]
    exact dec_no l (fun h => by obtain ⟨_, h1, h2, h3, h4, h5, h6⟩ := h; omega)
  rw [decide_eq_true c2]
  have wN : vConv (.int .u64) (.int .i64 s.N) = some (.int .u64 s.N) := by rw [qCZ, wrap_u64 (by omega) (by omega)]
  refine qQZ (v := .pointer (some ⟨i, 1, none⟩)) rfl (qQZ (v := .int .i64 s.N) hs.n (qQZ (v := .int .u64 s.N) wN (qQZ (v := .pointer (some ⟨i, 0, none⟩)) rfl (qQZ (v := .int .u64 s.P) hs.p (qQZ (v := .bool (decide (s.N < s.P))) (q7Z .u64 s.N s.P) (qQZ (v := .bool (decide (s.N < s.P))) rfl ?_))))))
  by_cases c3 : s.N < s.P
  case neg =>
    rw [decide_eq_false c3]
    exact dec_no l (fun h => by obtain ⟨_, h1, h2, h3, h4, h5, h6⟩ := h; omega)
  rw [decide_eq_true c3]
  refine qQZ (v := .pointer (some ⟨i, 2, none⟩)) rfl (qQZ (v := .int .i64 s.T) hs.t (qQZ (v := .bool (decide (1 ≤ s.T))) (q0Z .i64 s.T 1) (qQZ (v := .bool (decide (1 ≤ s.T))) rfl ?_)))
  by_cases c4 : 1 ≤ s.T
  case neg =>
    rw [decide_eq_false c4]
    exact dec_no l (fun h => by obtain ⟨_, h1, h2, h3, h4, h5, h6⟩ := h; omega)
  rw [decide_eq_true c4]
  refine qQZ (v := .pointer (some ⟨i, 2, none⟩)) rfl (qQZ (v := .int .i64 s.T) hs.t (qQZ (v := .pointer (some ⟨i, 1, none⟩)) rfl (qQZ (v := .int .i64 s.N) hs.n (qQZ (v := .bool (decide (s.T < s.N))) (q7Z .i64 s.T s.N) (qQZ (v := .bool (decide (s.T < s.N))) rfl ?_)))))
  by_cases c5 : s.T < s.N
  case neg =>
    rw [decide_eq_false c5]
    exact dec_no l (fun h => by obtain ⟨_, h1, h2, h3, h4, h5, h6⟩ := h; omega)
  rw [decide_eq_true c5]
  have wT : vInt .mul (.int .i64 3) (.int .i64 s.T) = some (.int .i64 (3 * s.T)) := by rw [vInt_mul, pBZ (by omega) (by omega)]
  refine qQZ (v := .pointer (some ⟨i, 2, none⟩)) rfl (qQZ (v := .int .i64 s.T) hs.t (qQZ (v := .int .i64 (3 * s.T)) wT (qQZ (v := .pointer (some ⟨i, 1, none⟩)) rfl (qQZ (v := .int .i64 s.N) hs.n (qQZ (v := .bool (decide (3 * s.T < s.N))) (q7Z .i64 (3 * s.T) s.N) (qQZ (v := .bool (decide (3 * s.T < s.N))) rfl ?_))))))
  exact dec_dec l ⟨fun h => ⟨hp, c1, c2, c3, c4, c5, h⟩, fun h => h.2.2.2.2.2.2⟩
theorem pvalid_spec (H : Heap) (s : Scn) (hG : GL H) : qVZ Tryd.prog 112 [parVal s] H (Dec (parOk s) H) := by
  apply call112
  unfold m112
  refine par_new s fun i H1 l1 hs => ?_
  refine qQZ (q1Z _ _) (qQZ hs.p (oRC_val (fsupported_spec (hG.mono l1) s.P) ?_))
  have l := l1
  by_cases hp : Supp s.P
  case neg =>
    rw [decide_eq_false hp]
    exact dec_no l fun h => hp h.1
  rw [decide_eq_true hp]
  refine qQZ (v := .pointer (some ⟨i, 1, none⟩)) rfl (qQZ (v := .int .i64 s.N) hs.n (qQZ (v := .bool (decide (4 ≤ s.N))) (q0Z .i64 s.N 4) (qQZ (v := .bool (decide (4 ≤ s.N))) rfl ?_)))
  by_cases c1 : 4 ≤ s.N
  case neg =>
    rw [decide_eq_false c1]
    exact dec_no l (fun h => by obtain ⟨_, h1, h2, h3, h4, h5, h6⟩ := h; omega)
  rw [decide_eq_true c1]
  refine qQZ (v := .pointer (some ⟨i, 1, none⟩)) rfl (qQZ (v := .int .i64 s.N) hs.n (qQZ (v := .bool (decide (s.N ≤ 13))) (q8Z .i64 s.N 13) (qQZ (v := .bool (decide (s.N ≤ 13))) rfl ?_)))
  by_cases c2 : s.N ≤ 13
  case neg =>
    rw [decide_eq_false c2]
    exact dec_no l (fun h => by obtain ⟨_, h1, h2, h3, h4, h5, h6⟩ := h; omega)
  rw [decide_eq_true c2]
  have wN : vConv (.int .u64) (.int .i64 s.N) = some (.int .u64 s.N) := by rw [qCZ, wrap_u64 (by omega) (by omega)]
  refine qQZ (v := .pointer (some ⟨i, 1, none⟩)) rfl (qQZ (v := .int .i64 s.N) hs.n (qQZ (v := .int .u64 s.N) wN (qQZ (v := .pointer (some ⟨i, 0, none⟩)) rfl (qQZ (v := .int .u64 s.P) hs.p (qQZ (v := .bool (decide (s.N < s.P))) (q7Z .u64 s.N s.P) (qQZ (v := .bool (decide (s.N < s.P))) rfl ?_))))))
  by_cases c3 : s.N < s.P
  case neg =>
    rw [decide_eq_false c3]
    exact dec_no l (fun h => by obtain ⟨_, h1, h2, h3, h4, h5, h6⟩ := h; omega)
  rw [decide_eq_true c3]
  refine qQZ (v := .pointer (some ⟨i, 2, none⟩)) rfl (qQZ (v := .int .i64 s.T) hs.t (qQZ (v := .bool (decide (1 ≤ s.T))) (q0Z .i64 s.T 1) (qQZ (v := .bool (decide (1 ≤ s.T))) rfl ?_)))
  by_cases c4 : 1 ≤ s.T
  case neg =>
    rw [decide_eq_false c4]
    exact dec_no l (fun h => by obtain ⟨_, h1, h2, h3, h4, h5, h6⟩ := h; omega)
  rw [decide_eq_true c4]
  refine qQZ (v := .pointer (some ⟨i, 2, none⟩)) rfl (qQZ (v := .int .i64 s.T) hs.t (qQZ (v := .pointer (some ⟨i, 1, none⟩)) rfl (qQZ (v := .int .i64 s.N) hs.n (qQZ (v := .bool (decide (s.T < s.N))) (q7Z .i64 s.T s.N) (qQZ (v := .bool (decide (s.T < s.N))) rfl ?_)))))
  by_cases c5 : s.T < s.N
  case neg =>
    rw [decide_eq_false c5]
    exact dec_no l (fun h => by obtain ⟨_, h1, h2, h3, h4, h5, h6⟩ := h; omega)
  rw [decide_eq_true c5]
  have wT : vInt .mul (.int .i64 3) (.int .i64 s.T) = some (.int .i64 (3 * s.T)) := by rw [vInt_mul, pBZ (by omega) (by omega)]
  refine qQZ (v := .pointer (some ⟨i, 2, none⟩)) rfl (qQZ (v := .int .i64 s.T) hs.t (qQZ (v := .int .i64 (3 * s.T)) wT (qQZ (v := .pointer (some ⟨i, 1, none⟩)) rfl (qQZ (v := .int .i64 s.N) hs.n (qQZ (v := .bool (decide (3 * s.T < s.N))) (q7Z .i64 (3 * s.T) s.N) (qQZ (v := .bool (decide (3 * s.T < s.N))) rfl ?_))))))
  exact dec_dec l ⟨fun h => ⟨hp, c1, c2, c3, c4, c5, h⟩, fun h => h.2.2.2.2.2.2⟩
def devOk (N : Int) (d : Dev) : Prop := 0 ≤ d.rd ∧ DevOk N d
theorem dev_spec (H : Heap) (s : Scn) (d : Dev) (hk0 : 0 ≤ d.k) (hk1 : d.k ≤ 18446744073709551615) : qVZ Tryd.prog 92 [parVal s, d.val] H (Dec (devOk s.N d) H) := by
  apply call92
  unfold m92
  refine par_new s fun i1 H1 l1 hs1 => ?_
  refine dev_new d fun i2 H2 l2 hd => ?_
  have hs := hs1.mono l2
  have l := l1.trans l2
  refine qQZ (q1Z _ _) (qQZ hd.l0 (qQZ (v := .bool (decide (0 ≤ d.rd))) (q0Z .i64 d.rd 0) ?_))
  by_cases c0 : 0 ≤ d.rd
  case neg =>
    rw [decide_eq_false c0]
    exact dec_no l (fun h => by obtain ⟨h1, h2, h3, h4, h5, h6, h7, h8, h9, h10, h11, h12, h13⟩ := h.2; have h0 := h.1; omega)
  rw [decide_eq_true c0]
  refine qQZ (v := .pointer (some ⟨i2, 3, none⟩)) rfl (qQZ (v := .int .i64 d.at_) hd.l3 (qQZ (v := .bool (decide (0 ≤ d.at_))) (q0Z .i64 d.at_ 0) (qQZ (v := .bool (decide (0 ≤ d.at_))) rfl ?_)))
  by_cases c1 : 0 ≤ d.at_
  case neg =>
    rw [decide_eq_false c1]
    exact dec_no l (fun h => by obtain ⟨h1, h2, h3, h4, h5, h6, h7, h8, h9, h10, h11, h12, h13⟩ := h.2; have h0 := h.1; omega)
  rw [decide_eq_true c1]
  refine qQZ (v := .pointer (some ⟨i2, 7, none⟩)) rfl (qQZ (v := .int .i64 d.src) hd.l7 (qQZ (v := .bool (decide (0 ≤ d.src))) (q0Z .i64 d.src 0) (qQZ (v := .bool (decide (0 ≤ d.src))) rfl ?_)))
  by_cases c2 : 0 ≤ d.src
  case neg =>
    rw [decide_eq_false c2]
    exact dec_no l (fun h => by obtain ⟨h1, h2, h3, h4, h5, h6, h7, h8, h9, h10, h11, h12, h13⟩ := h.2; have h0 := h.1; omega)
  rw [decide_eq_true c2]
  refine qQZ (v := .pointer (some ⟨i2, 1, none⟩)) rfl (qQZ (v := .int .i64 d.fr) hd.l1 (qQZ (v := .bool (decide (1 ≤ d.fr))) (q0Z .i64 d.fr 1) (qQZ (v := .bool (decide (1 ≤ d.fr))) rfl ?_)))
  by_cases c3 : 1 ≤ d.fr
  case neg =>
    rw [decide_eq_false c3]
    exact dec_no l (fun h => by obtain ⟨h1, h2, h3, h4, h5, h6, h7, h8, h9, h10, h11, h12, h13⟩ := h.2; have h0 := h.1; omega)
  rw [decide_eq_true c3]
  refine qQZ (v := .pointer (some ⟨i2, 1, none⟩)) rfl (qQZ (v := .int .i64 d.fr) hd.l1 (qQZ (v := .pointer (some ⟨i1, 1, none⟩)) rfl (qQZ (v := .int .i64 s.N) hs.n (qQZ (v := .bool (decide (d.fr ≤ s.N))) (q8Z .i64 d.fr s.N) (qQZ (v := .bool (decide (d.fr ≤ s.N))) rfl ?_)))))
  by_cases c4 : d.fr ≤ s.N
  case neg =>
    rw [decide_eq_false c4]
    exact dec_no l (fun h => by obtain ⟨h1, h2, h3, h4, h5, h6, h7, h8, h9, h10, h11, h12, h13⟩ := h.2; have h0 := h.1; omega)
  rw [decide_eq_true c4]
  refine qQZ (v := .pointer (some ⟨i2, 2, none⟩)) rfl (qQZ (v := .int .i64 d.to_) hd.l2 (qQZ (v := .bool (decide (0 ≤ d.to_))) (q0Z .i64 d.to_ 0) (qQZ (v := .bool (decide (0 ≤ d.to_))) rfl ?_)))
  by_cases c5 : 0 ≤ d.to_
  case neg =>
    rw [decide_eq_false c5]
    exact dec_no l (fun h => by obtain ⟨h1, h2, h3, h4, h5, h6, h7, h8, h9, h10, h11, h12, h13⟩ := h.2; have h0 := h.1; omega)
  rw [decide_eq_true c5]
  refine qQZ (v := .pointer (some ⟨i2, 2, none⟩)) rfl (qQZ (v := .int .i64 d.to_) hd.l2 (qQZ (v := .pointer (some ⟨i1, 1, none⟩)) rfl (qQZ (v := .int .i64 s.N) hs.n (qQZ (v := .bool (decide (d.to_ ≤ s.N))) (q8Z .i64 d.to_ s.N) (qQZ (v := .bool (decide (d.to_ ≤ s.N))) rfl ?_)))))
  by_cases c6 : d.to_ ≤ s.N
  case neg =>
    rw [decide_eq_false c6]
    exact dec_no l (fun h => by obtain ⟨h1, h2, h3, h4, h5, h6, h7, h8, h9, h10, h11, h12, h13⟩ := h.2; have h0 := h.1; omega)
  rw [decide_eq_true c6]
  refine qQZ (v := .pointer (some ⟨i2, 4, none⟩)) rfl (qQZ (v := .int .i64 d.kd) hd.l4 (qQZ (v := .bool (decide (1 ≤ d.kd))) (q0Z .i64 d.kd 1) (qQZ (v := .bool (decide (1 ≤ d.kd))) rfl ?_)))
  by_cases c7 : 1 ≤ d.kd
  case neg =>
    rw [decide_eq_false c7]
    exact dec_no l (fun h => by obtain ⟨h1, h2, h3, h4, h5, h6, h7, h8, h9, h10, h11, h12, h13⟩ := h.2; have h0 := h.1; omega)
  rw [decide_eq_true c7]
  refine qQZ (v := .pointer (some ⟨i2, 4, none⟩)) rfl (qQZ (v := .int .i64 d.kd) hd.l4 (qQZ (v := .bool (decide (d.kd ≤ 4))) (q8Z .i64 d.kd 4) (qQZ (v := .bool (decide (d.kd ≤ 4))) rfl ?_)))
  by_cases c8 : d.kd ≤ 4
  case neg =>
    rw [decide_eq_false c8]
    exact dec_no l (fun h => by obtain ⟨h1, h2, h3, h4, h5, h6, h7, h8, h9, h10, h11, h12, h13⟩ := h.2; have h0 := h.1; omega)
  rw [decide_eq_true c8]
  refine qQZ (v := .pointer (some ⟨i2, 6, none⟩)) rfl (qQZ (v := .int .i64 d.of_) hd.l6 (qQZ (v := .bool (decide (0 ≤ d.of_))) (q0Z .i64 d.of_ 0) (qQZ (v := .bool (decide (0 ≤ d.of_))) rfl ?_)))
  by_cases c9 : 0 ≤ d.of_
  case neg =>
    rw [decide_eq_false c9]
    exact dec_no l (fun h => by obtain ⟨h1, h2, h3, h4, h5, h6, h7, h8, h9, h10, h11, h12, h13⟩ := h.2; have h0 := h.1; omega)
  rw [decide_eq_true c9]
  refine qQZ (v := .pointer (some ⟨i2, 6, none⟩)) rfl (qQZ (v := .int .i64 d.of_) hd.l6 (qQZ (v := .pointer (some ⟨i1, 1, none⟩)) rfl (qQZ (v := .int .i64 s.N) hs.n (qQZ (v := .bool (decide (d.of_ ≤ s.N))) (q8Z .i64 d.of_ s.N) (qQZ (v := .bool (decide (d.of_ ≤ s.N))) rfl ?_)))))
  by_cases c10 : d.of_ ≤ s.N
  case neg =>
    rw [decide_eq_false c10]
    exact dec_no l (fun h => by obtain ⟨h1, h2, h3, h4, h5, h6, h7, h8, h9, h10, h11, h12, h13⟩ := h.2; have h0 := h.1; omega)
  rw [decide_eq_true c10]
  refine qQZ (v := .pointer (some ⟨i2, 4, none⟩)) rfl (qQZ (v := .int .i64 d.kd) hd.l4 (qQZ (v := .bool (decide (d.kd ≠ 3))) (q6Z .i64 d.kd 3) (qQZ (v := .bool (decide (d.kd ≠ 3))) rfl ?_)))
  by_cases c11 : d.kd ≠ 3
  case pos =>
    rw [decide_eq_true c11]
    exact dec_yes l ⟨c0, c1, c2, c3, c4, c5, c6, c7, c8, c9, c10, fun h => absurd h c11, hk0, hk1⟩
  rw [decide_eq_false c11]
  refine qQZ (v := .pointer (some ⟨i2, 6, none⟩)) rfl (qQZ (v := .int .i64 d.of_) hd.l6 (qQZ (v := .bool (decide (1 ≤ d.of_))) (q0Z .i64 d.of_ 1) (qQZ (v := .bool (decide (1 ≤ d.of_))) rfl (qQZ (v := .bool (decide (1 ≤ d.of_))) rfl ?_))))
  exact dec_dec l ⟨fun h => ⟨c0, c1, c2, c3, c4, c5, c6, c7, c8, c9, c10, fun _ => h, hk0, hk1⟩, fun h => h.2.of3 (by omega)⟩
theorem lie_spec (H : Heap) (s : Scn) (d : Dev) (hk0 : 0 ≤ d.k) (hk1 : d.k ≤ 18446744073709551615) : qVZ Tryd.prog 85 [parVal s, d.val] H (Dec (devOk s.N d) H) := by
  apply call85
  unfold m85
  refine par_new s fun i1 H1 l1 hs1 => ?_
  refine dev_new d fun i2 H2 l2 hd => ?_
  have hs := hs1.mono l2
  have l := l1.trans l2
  refine qQZ (q1Z _ _) (qQZ hd.l4 (qQZ (q5Z _ _ _) (qJZ (fun k3 => ?_) (fun k3 => ?_))))
  · skip
    refine qQZ (q1Z _ _) (qQZ hd.l0 (qQZ (v := .bool (decide (0 ≤ d.rd))) (q0Z .i64 d.rd 0) ?_))
    by_cases c0 : 0 ≤ d.rd
    case neg =>
      rw [decide_eq_false c0]
      exact dec_no l (fun h => by obtain ⟨h1, h2, h3, h4, h5, h6, h7, h8, h9, h10, h11, h12, h13⟩ := h.2; have h0 := h.1; omega)
    rw [decide_eq_true c0]
    refine qQZ (v := .pointer (some ⟨i2, 3, none⟩)) rfl (qQZ (v := .int .i64 d.at_) hd.l3 (qQZ (v := .bool (decide (0 ≤ d.at_))) (q0Z .i64 d.at_ 0) (qQZ (v := .bool (decide (0 ≤ d.at_))) rfl ?_)))
    by_cases c1 : 0 ≤ d.at_
    case neg =>
      rw [decide_eq_false c1]
      exact dec_no l (fun h => by obtain ⟨h1, h2, h3, h4, h5, h6, h7, h8, h9, h10, h11, h12, h13⟩ := h.2; have h0 := h.1; omega)
    rw [decide_eq_true c1]
    refine qQZ (v := .pointer (some ⟨i2, 7, none⟩)) rfl (qQZ (v := .int .i64 d.src) hd.l7 (qQZ (v := .bool (decide (0 ≤ d.src))) (q0Z .i64 d.src 0) (qQZ (v := .bool (decide (0 ≤ d.src))) rfl ?_)))
    by_cases c2 : 0 ≤ d.src
    case neg =>
      rw [decide_eq_false c2]
      exact dec_no l (fun h => by obtain ⟨h1, h2, h3, h4, h5, h6, h7, h8, h9, h10, h11, h12, h13⟩ := h.2; have h0 := h.1; omega)
    rw [decide_eq_true c2]
    refine qQZ (v := .pointer (some ⟨i2, 1, none⟩)) rfl (qQZ (v := .int .i64 d.fr) hd.l1 (qQZ (v := .bool (decide (1 ≤ d.fr))) (q0Z .i64 d.fr 1) (qQZ (v := .bool (decide (1 ≤ d.fr))) rfl ?_)))
    by_cases c3 : 1 ≤ d.fr
    case neg =>
      rw [decide_eq_false c3]
      exact dec_no l (fun h => by obtain ⟨h1, h2, h3, h4, h5, h6, h7, h8, h9, h10, h11, h12, h13⟩ := h.2; have h0 := h.1; omega)
    rw [decide_eq_true c3]
    refine qQZ (v := .pointer (some ⟨i2, 1, none⟩)) rfl (qQZ (v := .int .i64 d.fr) hd.l1 (qQZ (v := .pointer (some ⟨i1, 1, none⟩)) rfl (qQZ (v := .int .i64 s.N) hs.n (qQZ (v := .bool (decide (d.fr ≤ s.N))) (q8Z .i64 d.fr s.N) (qQZ (v := .bool (decide (d.fr ≤ s.N))) rfl ?_)))))
    by_cases c4 : d.fr ≤ s.N
    case neg =>
      rw [decide_eq_false c4]
      exact dec_no l (fun h => by obtain ⟨h1, h2, h3, h4, h5, h6, h7, h8, h9, h10, h11, h12, h13⟩ := h.2; have h0 := h.1; omega)
    rw [decide_eq_true c4]
    refine qQZ (v := .pointer (some ⟨i2, 2, none⟩)) rfl (qQZ (v := .int .i64 d.to_) hd.l2 (qQZ (v := .bool (decide (0 ≤ d.to_))) (q0Z .i64 d.to_ 0) (qQZ (v := .bool (decide (0 ≤ d.to_))) rfl ?_)))
    by_cases c5 : 0 ≤ d.to_
    case neg =>
      rw [decide_eq_false c5]
      exact dec_no l (fun h => by obtain ⟨h1, h2, h3, h4, h5, h6, h7, h8, h9, h10, h11, h12, h13⟩ := h.2; have h0 := h.1; omega)
    rw [decide_eq_true c5]
    refine qQZ (v := .pointer (some ⟨i2, 2, none⟩)) rfl (qQZ (v := .int .i64 d.to_) hd.l2 (qQZ (v := .pointer (some ⟨i1, 1, none⟩)) rfl (qQZ (v := .int .i64 s.N) hs.n (qQZ (v := .bool (decide (d.to_ ≤ s.N))) (q8Z .i64 d.to_ s.N) (qQZ (v := .bool (decide (d.to_ ≤ s.N))) rfl ?_)))))
    by_cases c6 : d.to_ ≤ s.N
    case neg =>
      rw [decide_eq_false c6]
      exact dec_no l (fun h => by obtain ⟨h1, h2, h3, h4, h5, h6, h7, h8, h9, h10, h11, h12, h13⟩ := h.2; have h0 := h.1; omega)
    rw [decide_eq_true c6]
    refine qQZ (v := .pointer (some ⟨i2, 4, none⟩)) rfl (qQZ (v := .int .i64 d.kd) hd.l4 (qQZ (v := .bool (decide (1 ≤ d.kd))) (q0Z .i64 d.kd 1) (qQZ (v := .bool (decide (1 ≤ d.kd))) rfl ?_)))
    by_cases c7 : 1 ≤ d.kd
    case neg =>
      rw [decide_eq_false c7]
      exact dec_no l (fun h => by obtain ⟨h1, h2, h3, h4, h5, h6, h7, h8, h9, h10, h11, h12, h13⟩ := h.2; have h0 := h.1; omega)
    rw [decide_eq_true c7]
    refine qQZ (v := .pointer (some ⟨i2, 4, none⟩)) rfl (qQZ (v := .int .i64 d.kd) hd.l4 (qQZ (v := .bool (decide (d.kd ≤ 4))) (q8Z .i64 d.kd 4) (qQZ (v := .bool (decide (d.kd ≤ 4))) rfl ?_)))
    by_cases c8 : d.kd ≤ 4
    case neg =>
      rw [decide_eq_false c8]
      exact dec_no l (fun h => by obtain ⟨h1, h2, h3, h4, h5, h6, h7, h8, h9, h10, h11, h12, h13⟩ := h.2; have h0 := h.1; omega)
    rw [decide_eq_true c8]
    refine qQZ (v := .pointer (some ⟨i2, 6, none⟩)) rfl (qQZ (v := .int .i64 d.of_) hd.l6 (qQZ (v := .int .i64 1) rfl (qQZ (v := .bool (decide (1 ≤ d.of_))) (q0Z .i64 d.of_ 1) (qQZ (v := .bool (decide (1 ≤ d.of_))) rfl ?_))))
    by_cases c9 : 1 ≤ d.of_
    case neg =>
      rw [decide_eq_false c9]
      exact dec_no l (fun h => by obtain ⟨h1, h2, h3, h4, h5, h6, h7, h8, h9, h10, h11, h12, h13⟩ := h.2; have := h11 k3; omega)
    rw [decide_eq_true c9]
    refine qQZ (v := .pointer (some ⟨i2, 6, none⟩)) rfl (qQZ (v := .int .i64 d.of_) hd.l6 (qQZ (v := .pointer (some ⟨i1, 1, none⟩)) rfl (qQZ (v := .int .i64 s.N) hs.n (qQZ (v := .bool (decide (d.of_ ≤ s.N))) (q8Z .i64 d.of_ s.N) (qQZ (v := .bool (decide (d.of_ ≤ s.N))) rfl ?_)))))
    exact dec_dec l ⟨fun h => ⟨c0, c1, c2, c3, c4, c5, c6, c7, c8, by omega, h, fun _ => c9, hk0, hk1⟩, fun h => h.2.of2⟩
  · skip
    refine qQZ (q1Z _ _) (qQZ hd.l0 (qQZ (v := .bool (decide (0 ≤ d.rd))) (q0Z .i64 d.rd 0) ?_))
    by_cases c0 : 0 ≤ d.rd
    case neg =>
      rw [decide_eq_false c0]
      exact dec_no l (fun h => by obtain ⟨h1, h2, h3, h4, h5, h6, h7, h8, h9, h10, h11, h12, h13⟩ := h.2; have h0 := h.1; omega)
    rw [decide_eq_true c0]
    refine qQZ (v := .pointer (some ⟨i2, 3, none⟩)) rfl (qQZ (v := .int .i64 d.at_) hd.l3 (qQZ (v := .bool (decide (0 ≤ d.at_))) (q0Z .i64 d.at_ 0) (qQZ (v := .bool (decide (0 ≤ d.at_))) rfl ?_)))
    by_cases c1 : 0 ≤ d.at_
    case neg =>
      rw [decide_eq_false c1]
      exact dec_no l (fun h => by obtain ⟨h1, h2, h3, h4, h5, h6, h7, h8, h9, h10, h11, h12, h13⟩ := h.2; have h0 := h.1; omega)
    rw [decide_eq_true c1]
    refine qQZ (v := .pointer (some ⟨i2, 7, none⟩)) rfl (qQZ (v := .int .i64 d.src) hd.l7 (qQZ (v := .bool (decide (0 ≤ d.src))) (q0Z .i64 d.src 0) (qQZ (v := .bool (decide (0 ≤ d.src))) rfl ?_)))
    by_cases c2 : 0 ≤ d.src
    case neg =>
      rw [decide_eq_false c2]
      exact dec_no l (fun h => by obtain ⟨h1, h2, h3, h4, h5, h6, h7, h8, h9, h10, h11, h12, h13⟩ := h.2; have h0 := h.1; omega)
    rw [decide_eq_true c2]
    refine qQZ (v := .pointer (some ⟨i2, 1, none⟩)) rfl (qQZ (v := .int .i64 d.fr) hd.l1 (qQZ (v := .bool (decide (1 ≤ d.fr))) (q0Z .i64 d.fr 1) (qQZ (v := .bool (decide (1 ≤ d.fr))) rfl ?_)))
    by_cases c3 : 1 ≤ d.fr
    case neg =>
      rw [decide_eq_false c3]
      exact dec_no l (fun h => by obtain ⟨h1, h2, h3, h4, h5, h6, h7, h8, h9, h10, h11, h12, h13⟩ := h.2; have h0 := h.1; omega)
    rw [decide_eq_true c3]
    refine qQZ (v := .pointer (some ⟨i2, 1, none⟩)) rfl (qQZ (v := .int .i64 d.fr) hd.l1 (qQZ (v := .pointer (some ⟨i1, 1, none⟩)) rfl (qQZ (v := .int .i64 s.N) hs.n (qQZ (v := .bool (decide (d.fr ≤ s.N))) (q8Z .i64 d.fr s.N) (qQZ (v := .bool (decide (d.fr ≤ s.N))) rfl ?_)))))
    by_cases c4 : d.fr ≤ s.N
    case neg =>
      rw [decide_eq_false c4]
      exact dec_no l (fun h => by obtain ⟨h1, h2, h3, h4, h5, h6, h7, h8, h9, h10, h11, h12, h13⟩ := h.2; have h0 := h.1; omega)
    rw [decide_eq_true c4]
    refine qQZ (v := .pointer (some ⟨i2, 2, none⟩)) rfl (qQZ (v := .int .i64 d.to_) hd.l2 (qQZ (v := .bool (decide (0 ≤ d.to_))) (q0Z .i64 d.to_ 0) (qQZ (v := .bool (decide (0 ≤ d.to_))) rfl ?_)))
    by_cases c5 : 0 ≤ d.to_
    case neg =>
      rw [decide_eq_false c5]
      exact dec_no l (fun h => by obtain ⟨h1, h2, h3, h4, h5, h6, h7, h8, h9, h10, h11, h12, h13⟩ := h.2; have h0 := h.1; omega)
    rw [decide_eq_true c5]
    refine qQZ (v := .pointer (some ⟨i2, 2, none⟩)) rfl (qQZ (v := .int .i64 d.to_) hd.l2 (qQZ (v := .pointer (some ⟨i1, 1, none⟩)) rfl (qQZ (v := .int .i64 s.N) hs.n (qQZ (v := .bool (decide (d.to_ ≤ s.N))) (q8Z .i64 d.to_ s.N) (qQZ (v := .bool (decide (d.to_ ≤ s.N))) rfl ?_)))))
    by_cases c6 : d.to_ ≤ s.N
    case neg =>
      rw [decide_eq_false c6]
      exact dec_no l (fun h => by obtain ⟨h1, h2, h3, h4, h5, h6, h7, h8, h9, h10, h11, h12, h13⟩ := h.2; have h0 := h.1; omega)
    rw [decide_eq_true c6]
    refine qQZ (v := .pointer (some ⟨i2, 4, none⟩)) rfl (qQZ (v := .int .i64 d.kd) hd.l4 (qQZ (v := .bool (decide (1 ≤ d.kd))) (q0Z .i64 d.kd 1) (qQZ (v := .bool (decide (1 ≤ d.kd))) rfl ?_)))
    by_cases c7 : 1 ≤ d.kd
    case neg =>
      rw [decide_eq_false c7]
      exact dec_no l (fun h => by obtain ⟨h1, h2, h3, h4, h5, h6, h7, h8, h9, h10, h11, h12, h13⟩ := h.2; have h0 := h.1; omega)
    rw [decide_eq_true c7]
    refine qQZ (v := .pointer (some ⟨i2, 4, none⟩)) rfl (qQZ (v := .int .i64 d.kd) hd.l4 (qQZ (v := .bool (decide (d.kd ≤ 4))) (q8Z .i64 d.kd 4) (qQZ (v := .bool (decide (d.kd ≤ 4))) rfl ?_)))
    by_cases c8 : d.kd ≤ 4
    case neg =>
      rw [decide_eq_false c8]
      exact dec_no l (fun h => by obtain ⟨h1, h2, h3, h4, h5, h6, h7, h8, h9, h10, h11, h12, h13⟩ := h.2; have h0 := h.1; omega)
    rw [decide_eq_true c8]
    refine qQZ (v := .pointer (some ⟨i2, 6, none⟩)) rfl (qQZ (v := .int .i64 d.of_) hd.l6 (qQZ (v := .int .i64 0) rfl (qQZ (v := .bool (decide (0 ≤ d.of_))) (q0Z .i64 d.of_ 0) (qQZ (v := .bool (decide (0 ≤ d.of_))) rfl ?_))))
    by_cases c9 : 0 ≤ d.of_
    case neg =>
      rw [decide_eq_false c9]
      exact dec_no l (fun h => by obtain ⟨h1, h2, h3, h4, h5, h6, h7, h8, h9, h10, h11, h12, h13⟩ := h.2; omega)
    rw [decide_eq_true c9]
    refine qQZ (v := .pointer (some ⟨i2, 6, none⟩)) rfl (qQZ (v := .int .i64 d.of_) hd.l6 (qQZ (v := .pointer (some ⟨i1, 1, none⟩)) rfl (qQZ (v := .int .i64 s.N) hs.n (qQZ (v := .bool (decide (d.of_ ≤ s.N))) (q8Z .i64 d.of_ s.N) (qQZ (v := .bool (decide (d.of_ ≤ s.N))) rfl ?_)))))
    exact dec_dec l ⟨fun h => ⟨c0, c1, c2, c3, c4, c5, c6, c7, c8, c9, h, fun e => absurd e k3, hk0, hk1⟩, fun h => h.2.of2⟩
def coalAt (s : Scn) (xs : List Int) (j : Nat) (h : j < xs.length) : Prop := 1 ≤ xs[j] ∧ xs[j] ≤ s.N ∧ ∀ _ : 0 < j, xs[j - 1]'(by omega) < xs[j]
def coalOk (s : Scn) (xs : List Int) : Prop := (xs.length : Int) ≤ s.T ∧ ∀ (j : Nat) (h : j < xs.length), coalAt s xs j h
theorem coal_loop {v : Value} {xs : List Int} (hv : Sl (eInt .i64) H v xs) (hs : PAt H i s) {kn : Heap → Prop} {Q : Ending → Heap → Prop} (hk : (∀ (j : Nat) (h : j < xs.length), coalAt s xs j h) → kn H) (hq : ¬ (∀ (j : Nat) (h : j < xs.length), coalAt s xs j h) → Q (.returned (.bool false)) H) :
    ∀ (d j : Nat), xs.length - j = d → j ≤ xs.length → (∀ (j' : Nat) (h : j' < xs.length), j' < j → coalAt s xs j' h) → L91_3 v (qTZ i) (.int .i64 j) H kn Q := by
  have hm := hv.max
  intro d
  induction d with
  | zero =>
    intro j hd hi ha
    apply L91_3_round
    unfold m91_4
    refine qQZ hv.len (qQZ (q7Z _ _ _) (qJZ (fun hlt => absurd hlt (by omega)) (fun _ => hk fun j' h => ha j' h (by omega))))
  | succ d ih =>
    intro j hd hi ha
    apply L91_3_round
    unfold m91_4
    refine qQZ hv.len (qQZ (q7Z _ _ _) (qJZ (fun hlt => ?_) (fun hlt => absurd (by omega) hlt)))
    have hjl : j < xs.length := by omega
    obtain ⟨q, f1, f2⟩ := hv.int .i64 (i := (j : Int)) (by omega) (by omega) (ti := ty3) rfl
    have ey : xs.getD (j : Int).toNat 0 = xs[j] := by simp [hjl]
    rw [ey] at f2
    have w1 := pBZ (show -9223372036854775808 ≤ (j : Int) + 1 by omega) (by omega)
    have next := fun (h : coalAt s xs j hjl) => ih (j + 1) (by omega) (by omega) fun j' h' hj' => by
      by_cases e : j' = j
      · subst e; exact h
      · exact ha j' h' (by omega)
    have hno : ¬ coalAt s xs j hjl → Q (.returned (.bool false)) H := fun h => hq fun hh => h (hh j hjl)
    generalize hy : xs[j] = y at f2
    refine qQZ f1 (qQZ f2 (qQZ (q7Z _ _ _) ?_))
    by_cases c1 : y < 1
    · rw [decide_eq_true c1]
      exact qMZ (hno fun h => by have := h.1; omega)
    rw [decide_eq_false c1]
    refine qQZ (v := v) rfl (qQZ (v := .int .i64 j) rfl (qQZ (v := q) f1 (qQZ (v := .int .i64 y) f2 (qQZ (v := .pointer (some ⟨i, 1, none⟩)) rfl (qQZ (v := .int .i64 s.N) hs.n (qQZ (v := .bool (decide (s.N < y))) (q9Z .i64 y s.N) (qQZ (v := .bool (decide (s.N < y))) rfl ?_)))))))
    by_cases c2 : s.N < y
    · rw [decide_eq_true c2]
      exact qMZ (hno fun h => by have := h.2.1; omega)
    rw [decide_eq_false c2]
    refine qQZ (v := .int .i64 j) rfl (qQZ (v := .bool (decide (0 < (j : Int)))) (q9Z .i64 (j : Int) 0) (qQZ (v := .bool (decide (0 < (j : Int)))) rfl ?_))
    by_cases c3 : 0 < (j : Int)
    · rw [decide_eq_true c3]
      obtain ⟨q2, g1, g2⟩ := hv.int .i64 (i := (j : Int) - 1) (by omega) (by omega) (ti := ty3) rfl
      have ez : xs.getD ((j : Int) - 1).toNat 0 = xs[j - 1]'(by omega) := by
        rw [show ((j : Int) - 1).toNat = j - 1 by omega]
        simp [show j - 1 < xs.length by omega]
      rw [ez] at g2
      generalize hz : xs[j - 1]'(by omega) = z at g2
      have w2 := pBZ (show -9223372036854775808 ≤ (j : Int) - 1 by omega) (by omega)
      have e2 : vInt .sub (.int .i64 (j : Int)) (.int .i64 1) = some (.int .i64 ((j : Int) - 1)) := by rw [vInt_sub, w2]
      refine qQZ (v := v) rfl (qQZ (v := .int .i64 j) rfl (qQZ (v := q) f1 (qQZ (v := .int .i64 y) f2 (qQZ (v := v) rfl (qQZ (v := .int .i64 j) rfl (qQZ (v := .int .i64 ((j : Int) - 1)) e2 (qQZ (v := q2) g1 (qQZ (v := .int .i64 z) g2 (qQZ (v := .bool (decide (y ≤ z))) (q8Z .i64 y z) (qQZ (v := .bool (decide (y ≤ z))) rfl (qQZ (v := .bool (decide (y ≤ z))) rfl (qJZ (fun c4 => ?_) (fun c4 => qQZ (vInt_add _ _ _) ?_)))))))))))))
      · exact hno fun h => by have := h.2.2 (by omega); rw [hy, hz] at this; omega
      rw [w1]
      exact next ⟨by omega, by omega, fun _ => by rw [hy, hz]; omega⟩
    · rw [decide_eq_false c3]
      refine qLZ (qQZ (vInt_add _ _ _) ?_)
      rw [w1]
      exact next ⟨by omega, by omega, fun h => absurd h (by omega)⟩
theorem coal_spec {v : Value} {xs : List Int} (hv : Sl (eInt .i64) H v xs) (s : Scn) : qVZ Tryd.prog 91 [parVal s, v] H (Dec (parOk s ∧ coalOk s xs) H) := by
  apply call91
  unfold m91
  refine par_new s fun i H1 l1 hs => ?_
  refine qQZ hs.all (p9Z (valid_spec H1 s) fun r H2 hr => ?_)
  obtain ⟨l2, b, rfl, hb⟩ := hr
  replace hs := hs.mono l2
  have l := l1.trans l2
  cases b with
  | false => exact qMZ (dec_no l fun h => by have := hb.2 h.1; cases this)
  | true =>
    refine qQZ (v := .bool false) rfl (qQZ (v := v) rfl (qQZ (v := .int .i64 xs.length) hv.len (qQZ (v := .pointer (some ⟨i, 2, none⟩)) rfl (qQZ (v := .int .i64 s.T) hs.t (qQZ (v := .bool (decide (s.T < (xs.length : Int)))) (q9Z .i64 (xs.length : Int) s.T) (qQZ (v := .bool (decide (s.T < (xs.length : Int)))) rfl (qJZ (fun c => dec_no l fun h => absurd h.2.1 (by omega)) (fun c => ?_))))))))
    unfold m91_2
    refine coal_loop (s := s) (hv.mono l) hs (fun h => ?_) (fun h => dec_no l fun hh => h hh.2.2) _ 0 rfl (by omega) (fun j h hj => absurd hj (by omega))
    unfold m91_1
    exact dec_yes l ⟨hb.1 rfl, by omega, h⟩
theorem pcoal_loop {v : Value} {xs : List Int} (hv : Sl (eInt .i64) H v xs) (hs : PAt H i s) {kn : Heap → Prop} {Q : Ending → Heap → Prop} (hk : (∀ (j : Nat) (h : j < xs.length), coalAt s xs j h) → kn H) (hq : ¬ (∀ (j : Nat) (h : j < xs.length), coalAt s xs j h) → Q (.returned (.bool false)) H) :
    ∀ (d j : Nat), xs.length - j = d → j ≤ xs.length → (∀ (j' : Nat) (h : j' < xs.length), j' < j → coalAt s xs j' h) → L82_3 v (qTZ i) v (.int .i64 xs.length) (.int .i64 j) H kn Q := by
  have hm := hv.max
  intro d
  induction d with
  | zero =>
    intro j hd hi ha
    apply L82_3_round
    unfold m82_4
    refine (qQZ (q7Z _ _ _) (qJZ (fun hlt => absurd hlt (by omega)) (fun _ => hk fun j' h => ha j' h (by omega))))
  | succ d ih =>
    intro j hd hi ha
    apply L82_3_round
    unfold m82_4
    refine (qQZ (q7Z _ _ _) (qJZ (fun hlt => ?_) (fun hlt => absurd (by omega) hlt)))
    have hjl : j < xs.length := by omega
    obtain ⟨q, f1, f2⟩ := hv.int .i64 (i := (j : Int)) (by omega) (by omega) (ti := ty3) rfl
    have ey : xs.getD (j : Int).toNat 0 = xs[j] := by simp [hjl]
    rw [ey] at f2
    have w1 := pBZ (show -9223372036854775808 ≤ (j : Int) + 1 by omega) (by omega)
    have next := fun (h : coalAt s xs j hjl) => ih (j + 1) (by omega) (by omega) fun j' h' hj' => by
      by_cases e : j' = j
      · subst e; exact h
      · exact ha j' h' (by omega)
    have hno : ¬ coalAt s xs j hjl → Q (.returned (.bool false)) H := fun h => hq fun hh => h (hh j hjl)
    generalize hy : xs[j] = y at f2
    refine qQZ f1 (qQZ f2 (qQZ (q7Z _ _ _) ?_))
    by_cases c1 : y < 1
    · rw [decide_eq_true c1]
      exact qMZ (hno fun h => by have := h.1; omega)
    rw [decide_eq_false c1]
    refine qQZ (v := .int .i64 y) rfl (qQZ (v := .pointer (some ⟨i, 1, none⟩)) rfl (qQZ (v := .int .i64 s.N) hs.n (qQZ (v := .bool (decide (s.N < y))) (q9Z .i64 y s.N) (qQZ (v := .bool (decide (s.N < y))) rfl ?_))))
    by_cases c2 : s.N < y
    · rw [decide_eq_true c2]
      exact qMZ (hno fun h => by have := h.2.1; omega)
    rw [decide_eq_false c2]
    refine qQZ (v := .int .i64 j) rfl (qQZ (v := .bool (decide (0 < (j : Int)))) (q9Z .i64 (j : Int) 0) (qQZ (v := .bool (decide (0 < (j : Int)))) rfl ?_))
    by_cases c3 : 0 < (j : Int)
    · rw [decide_eq_true c3]
      obtain ⟨q2, g1, g2⟩ := hv.int .i64 (i := (j : Int) - 1) (by omega) (by omega) (ti := ty3) rfl
      have ez : xs.getD ((j : Int) - 1).toNat 0 = xs[j - 1]'(by omega) := by
        rw [show ((j : Int) - 1).toNat = j - 1 by omega]
        simp [show j - 1 < xs.length by omega]
      rw [ez] at g2
      generalize hz : xs[j - 1]'(by omega) = z at g2
      have w2 := pBZ (show -9223372036854775808 ≤ (j : Int) - 1 by omega) (by omega)
      have e2 : vInt .sub (.int .i64 (j : Int)) (.int .i64 1) = some (.int .i64 ((j : Int) - 1)) := by rw [vInt_sub, w2]
      refine qQZ (v := v) rfl (qQZ (v := .int .i64 j) rfl (qQZ (v := .int .i64 ((j : Int) - 1)) e2 (qQZ (v := q2) g1 (qQZ (v := .int .i64 z) g2 (qQZ (v := .int .i64 y) rfl (qQZ (v := .bool (decide (y ≤ z))) (q0Z .i64 z y) (qQZ (v := .bool (decide (y ≤ z))) rfl (qQZ (v := .bool (decide (y ≤ z))) rfl (qJZ (fun c4 => ?_) (fun c4 => qQZ (vInt_add _ _ _) ?_))))))))))
      · exact hno fun h => by have := h.2.2 (by omega); rw [hy, hz] at this; omega
      rw [w1]
      exact next ⟨by omega, by omega, fun _ => by rw [hy, hz]; omega⟩
    · rw [decide_eq_false c3]
      refine qLZ (qQZ (vInt_add _ _ _) ?_)
      rw [w1]
      exact next ⟨by omega, by omega, fun h => absurd h (by omega)⟩
theorem pcoal_spec {v : Value} {xs : List Int} (hv : Sl (eInt .i64) H v xs) (s : Scn) (hG : GL H) : qVZ Tryd.prog 82 [parVal s, v] H (Dec (parOk s ∧ coalOk s xs) H) := by
  apply call82
  unfold m82
  refine par_new s fun i H1 l1 hs => ?_
  refine qQZ hs.all (p9Z (pvalid_spec H1 s (hG.mono l1)) fun r H2 hr => ?_)
  obtain ⟨l2, b, rfl, hb⟩ := hr
  replace hs := hs.mono l2
  have l := l1.trans l2
  cases b with
  | false => exact qMZ (dec_no l fun h => by have := hb.2 h.1; cases this)
  | true =>
    refine qQZ (v := .bool false) rfl (qQZ (v := v) rfl (qQZ (v := .int .i64 xs.length) hv.len (qQZ (v := .pointer (some ⟨i, 2, none⟩)) rfl (qQZ (v := .int .i64 s.T) hs.t (qQZ (v := .bool (decide (s.T < (xs.length : Int)))) (q9Z .i64 (xs.length : Int) s.T) (qQZ (v := .bool (decide (s.T < (xs.length : Int)))) rfl (qJZ (fun c => dec_no l fun h => absurd h.2.1 (by omega)) (fun c => ?_))))))))
    unfold m82_2
    refine qQZ hv.len ?_
    refine pcoal_loop (s := s) (hv.mono l) hs (fun h => ?_) (fun h => dec_no l fun hh => h hh.2.2) _ 0 rfl (by omega) (fun j h hj => absurd hj (by omega))
    unfold m82_1
    exact dec_yes l ⟨hb.1 rfl, by omega, h⟩
end
structure ScnV (s : Scn) : Prop where
  par : parOk s
  coal : coalOk s s.bad
  len : (s.tapes.length : Int) = s.N
  devs : ∀ d ∈ s.devs, devOk s.N d
  tapes : ∀ l ∈ s.tapes, ∀ x ∈ l, x < s.P
section
variable {H : Heap} {i : Nat} {s : Scn} {cv dv tv : Value}
theorem tapes_loop {Hb H0 : Heap} (hb : Le Hb H0) (hs : SAt H0 i s cv dv tv) (hok : ScnOk H0 s cv dv tv) (hP : (∀ l ∈ s.tapes, ∀ x ∈ l, x < s.P) → ScnV s) :
    ∀ (d j : Nat) (H : Heap), s.tapes.length - j = d → j ≤ s.tapes.length → Le H0 H → (∀ l ∈ s.tapes.take j, ∀ x ∈ l, x < s.P) → L54_4 (qTZ i) (.int .i64 j) H (fun H_16 => m54_2 H_16 (Dec (ScnV s) Hb)) (Dec (ScnV s) Hb) := by
  have hm := hok.tapes.max
  intro d
  induction d with
  | zero =>
    intro j H hd hi hl ha
    apply L54_4_round
    unfold m54_5
    refine qQZ (q1Z _ _) (qQZ (hs.mono hl).t (qQZ hok.tapes.len (qQZ (q7Z _ _ _) (qJZ (fun hlt => absurd hlt (by omega)) (fun _ => ?_)))))
    unfold m54_2
    rw [List.take_of_length_le (by omega)] at ha
    exact dec_yes (hb.trans hl) (hP ha)
  | succ d ih =>
    intro j H hd hi hl ha
    apply L54_4_round
    unfold m54_5
    have hsH := hs.mono hl
    refine qQZ (q1Z _ _) (qQZ hsH.t (qQZ hok.tapes.len (qQZ (q7Z _ _ _) (qJZ (fun hlt => ?_) (fun hlt => absurd (by omega) hlt)))))
    have hjl : j < s.tapes.length := by omega
    obtain ⟨pt, u, a1, a2, a3⟩ := (hok.tapes.mono hl).slice .i64 (i := (j : Int)) (by omega) (by omega) (ti := ty52) rfl
    have e : s.tapes.getD (j : Int).toNat [] = s.tapes[j] := by simp [hjl]
    rw [e] at a3
    refine qQZ (q1Z _ _) (qQZ (v := .pointer (some ⟨i, 0, none⟩)) rfl (qQZ hsH.p (qQZ (q1Z _ _) (qQZ hsH.t (qQZ a1 (qQZ a2 (p9Z (below_spec (p := s.P) a3) fun r H2 hr => ?_)))))))
    obtain ⟨l2, b, rfl, hbw⟩ := hr
    cases b with
    | false => exact qQZ rfl (qMZ (dec_no (hb.trans (hl.trans l2)) fun h => by have := hbw.2 (h.tapes _ (List.getElem_mem hjl)); cases this))
    | true =>
      refine qQZ rfl (qLZ (qQZ (vInt_add _ _ _) ?_))
      rw [pBZ (by omega) (by omega)]
      refine ih (j + 1) H2 (by omega) (by omega) (hl.trans l2) fun l hx => ?_
      rw [List.take_succ_eq_append_getElem hjl] at hx
      rcases List.mem_append.1 hx with hx | hx
      · exact ha l hx
      · rw [List.mem_singleton.1 hx]
        exact hbw.1 rfl
theorem devs_loop {Hb H0 : Heap} (hb0 : Le Hb H0) (hs : SAt H0 i s cv dv tv) (hok : ScnOk H0 s cv dv tv) (hk : ∀ d ∈ s.devs, 0 ≤ d.k ∧ d.k ≤ 18446744073709551615) {kn : Value → Heap → Prop} (hkn : ∀ H, Le H0 H → (∀ d ∈ s.devs, devOk s.N d) → kn (qTZ i) H) :
    ∀ (d j : Nat) (H : Heap), s.devs.length - j = d → j ≤ s.devs.length → Le H0 H → (∀ d ∈ s.devs.take j, devOk s.N d) → L54_7 (qTZ i) (.int .i64 j) H kn (Dec (ScnV s) Hb) := by
  have hm := hok.devs.max
  intro d
  induction d with
  | zero =>
    intro j H hd hi hl ha
    apply L54_7_round
    unfold m54_8
    refine qQZ (q1Z _ _) (qQZ (hs.mono hl).ds (qQZ hok.devs.len (qQZ (q7Z _ _ _) (qJZ (fun hlt => absurd hlt (by omega)) (fun _ => ?_)))))
    rw [List.take_of_length_le (by omega)] at ha
    exact hkn H hl ha
  | succ d ih =>
    intro j H hd hi hl ha
    apply L54_7_round
    unfold m54_8
    have hsH := hs.mono hl
    refine qQZ (q1Z _ _) (qQZ hsH.ds (qQZ hok.devs.len (qQZ (q7Z _ _ _) (qJZ (fun hlt => ?_) (fun hlt => absurd (by omega) hlt)))))
    have hil : j < s.devs.length := by omega
    obtain ⟨q, f1, f2⟩ := (hok.devs.mono hl).dev hil
    have hkd := hk _ (List.getElem_mem hil)
    refine qQZ (q1Z _ _) (qQZ hsH.par (qQZ (q1Z _ _) (qQZ hsH.ds (qQZ f1 (qQZ f2 (p9Z (dev_spec H s _ hkd.1 hkd.2) fun r H2 hr => ?_))))))
    obtain ⟨l2, b, rfl, hb⟩ := hr
    cases b with
    | false => exact qQZ rfl (qMZ (dec_no (hb0.trans (hl.trans l2)) fun h => by have := hb.2 (h.devs _ (List.getElem_mem hil)); cases this))
    | true =>
      refine qQZ rfl (qLZ (qQZ (vInt_add _ _ _) ?_))
      rw [pBZ (by omega) (by omega)]
      refine ih (j + 1) H2 (by omega) (by omega) (hl.trans l2) fun x hx => ?_
      rw [List.take_succ_eq_append_getElem hil] at hx
      rcases List.mem_append.1 hx with hx | hx
      · exact ha x hx
      · rw [List.mem_singleton.1 hx]
        exact hb.1 rfl
theorem scn_spec (hok : ScnOk H s cv dv tv) (hk : ∀ d ∈ s.devs, 0 ≤ d.k ∧ d.k ≤ 18446744073709551615) : qVZ Tryd.prog 54 [scnVal s cv dv tv] H (Dec (ScnV s) H) := by
  apply call54
  unfold m54
  refine scn_new s cv dv tv fun i H1 l1 hs => ?_
  refine qQZ (q1Z _ _) (qQZ hs.par (p9Z (valid_spec H1 s) fun r H2 hr => ?_))
  obtain ⟨l2, b, rfl, hb⟩ := hr
  replace hs := hs.mono l2
  have l := l1.trans l2
  cases b with
  | false => exact gK_TF (qMZ (dec_no l fun h => by have := hb.2 h.par; cases this))
  | true =>
    refine qQZ (v := .bool false) rfl (qQZ (v := .pointer (some ⟨i, 0, none⟩)) rfl (qQZ (v := parVal s) hs.par (qQZ (v := .pointer (some ⟨i, 3, none⟩)) rfl (qQZ (v := cv) hs.c ?_))))
    refine gK_FF (p9Z (coal_spec (hok.bad.mono l) s) fun r H3 hr => ?_)
    obtain ⟨l3, b2, rfl, hb2⟩ := hr
    replace hs := hs.mono l3
    replace l := l.trans l3
    cases b2 with
    | false => exact qMZ (dec_no l fun h => by have := hb2.2 ⟨h.par, h.coal⟩; cases this)
    | true =>
      refine qQZ (v := .bool false) rfl (qQZ (v := .bool false) rfl (qQZ (v := .pointer (some ⟨i, 5, none⟩)) rfl (qQZ (v := tv) hs.t (qQZ (v := .int .i64 s.tapes.length) hok.tapes.len (qQZ (v := .pointer (some ⟨i, 0, none⟩)) rfl (qQZ (v := .pointer (some ⟨i, 1, none⟩)) rfl (qQZ (v := .int .i64 s.N) hs.n (qQZ (v := .bool (decide ((s.tapes.length : Int) ≠ s.N))) (q6Z .i64 (s.tapes.length : Int) s.N) (qQZ (v := .bool (decide ((s.tapes.length : Int) ≠ s.N))) rfl (qJZ (fun c => dec_no l fun h => c h.len) (fun c => ?_)))))))))))
      have c : (s.tapes.length : Int) = s.N := by simpa using c
      unfold m54_6
      exact devs_loop (Hb := H) (H0 := H3) l hs (hok.mono l) hk (fun K hl ha => by
        unfold m54_1 m54_3
        exact tapes_loop (H0 := H3) l hs (hok.mono l) (fun ht => ⟨hb.1 rfl, (hb2.1 rfl).2, c, ha, ht⟩) _ 0 K rfl (by omega) hl (by simp)) _ 0 H3 rfl (by omega) (Le.refl _) (by simp)
end
section
variable {H G : Heap} {i : Nat} {s : Scn} {cv dv tv : Value}
theorem bigs_spec {v : Value} {ws : List Int} (hs : SAt G i s cv dv tv) (hl0 : Le G H) (hv : Sl (eInt .u64) H v ws) : qVZ Tryd.prog 88 [v, .func (.func 89) #[] #[qTZ i]] H (Dec (¬ ∀ x ∈ ws, x < s.P) H) := by
  have hm := hv.max
  apply call88
  unfold m88
  have idx : qVZ Tryd.prog 115 [v, .func (.func 89) #[] #[qTZ i]] H (Ret fun r H' => Le H H' ∧ ∃ n : Int, r = .int .i64 n ∧ (0 ≤ n ↔ ¬ ∀ x ∈ ws, x < s.P)) := by
    apply call115
    unfold m115 m115_2
    refine qQZ hv.len ?_
    have key : ∀ (d j : Nat), ws.length - j = d → j ≤ ws.length → (∀ x ∈ ws.take j, x < s.P) → L115_3 v (.func (.func 89) #[] #[qTZ i]) (.int .i64 ws.length) (.int .i64 j) H (fun H_8 => m115_1 H_8 (Ret fun r H' => Le H H' ∧ ∃ n : Int, r = .int .i64 n ∧ (0 ≤ n ↔ ¬ ∀ x ∈ ws, x < s.P))) (Ret fun r H' => Le H H' ∧ ∃ n : Int, r = .int .i64 n ∧ (0 ≤ n ↔ ¬ ∀ x ∈ ws, x < s.P)) := by
      intro d
      induction d with
      | zero =>
        intro j hd hi ha
        apply L115_3_round
        unfold m115_4
        refine qQZ (q7Z _ _ _) (qJZ (fun hlt => absurd hlt (by omega)) (fun _ => ?_))
        unfold m115_1
        rw [List.take_of_length_le (by omega)] at ha
        exact ⟨Le.refl _, -1, rfl, ⟨fun h => absurd h (by omega), fun h => absurd ha h⟩⟩
      | succ d ih =>
        intro j hd hi ha
        apply L115_3_round
        unfold m115_4
        refine qQZ (q7Z _ _ _) (qJZ (fun hlt => ?_) (fun hlt => absurd (by omega) hlt))
        have hil : j < ws.length := by omega
        obtain ⟨q, f1, f2⟩ := hv.int .i64 (i := (j : Int)) (by omega) (by omega) (ti := ty22) rfl
        have e : ws.getD (j : Int).toNat 0 = ws[j] := by simp [hil]
        rw [e] at f2
        have one : qVZ Tryd.prog 89 [.int .u64 ws[j], qTZ i] H (Val (.bool (decide (s.P ≤ ws[j]))) H) := by
          apply call89
          unfold m89
          exact qQZ (q1Z _ _) (qQZ (v := .pointer (some ⟨i, 0, none⟩)) rfl (qQZ (hs.mono hl0).p (qQZ (q0Z _ _ _) ⟨rfl, rfl⟩)))
        refine qQZ f1 (qQZ f2 (oCl_ret rfl one fun r H' hr => ?_))
        obtain ⟨rfl, rfl⟩ := hr
        refine qJZ (fun c => ⟨Le.refl _, j, rfl, ⟨fun _ h => by have := h _ (List.getElem_mem hil); omega, fun _ => by omega⟩⟩) (fun c => qQZ (vInt_add _ _ _) ?_)
        rw [pBZ (by omega) (by omega)]
        refine ih (j + 1) (by omega) (by omega) fun x hx => ?_
        rw [List.take_succ_eq_append_getElem hil] at hx
        rcases List.mem_append.1 hx with hx | hx
        · exact ha x hx
        · rw [List.mem_singleton.1 hx]
          omega
    exact key _ 0 rfl (by omega) (by simp)
  refine p9Z idx fun r H' hr => ?_
  obtain ⟨hl, n, rfl, hn⟩ := hr
  exact qQZ (q0Z _ _ _) (dec_dec hl hn)
theorem ptapes_spec (hs : SAt H i s cv dv tv) (hok : ScnOk H s cv dv tv) : qVZ Tryd.prog 86 [tv, .func (.func 87) #[] #[qTZ i]] H (Dec (¬ ∀ l ∈ s.tapes, ∀ x ∈ l, x < s.P) H) := by
  have hm := hok.tapes.max
  apply call86
  unfold m86
  have idx : qVZ Tryd.prog 114 [tv, .func (.func 87) #[] #[qTZ i]] H (Ret fun r H' => Le H H' ∧ ∃ n : Int, r = .int .i64 n ∧ (0 ≤ n ↔ ¬ ∀ l ∈ s.tapes, ∀ x ∈ l, x < s.P)) := by
    apply call114
    unfold m114 m114_2
    refine qQZ hok.tapes.len ?_
    have key : ∀ (d j : Nat) (K : Heap), Le H K → s.tapes.length - j = d → j ≤ s.tapes.length → (∀ l ∈ s.tapes.take j, ∀ x ∈ l, x < s.P) → L114_3 tv (.func (.func 87) #[] #[qTZ i]) (.int .i64 s.tapes.length) (.int .i64 j) K (fun H_8 => m114_1 H_8 (Ret fun r H' => Le H H' ∧ ∃ n : Int, r = .int .i64 n ∧ (0 ≤ n ↔ ¬ ∀ l ∈ s.tapes, ∀ x ∈ l, x < s.P))) (Ret fun r H' => Le H H' ∧ ∃ n : Int, r = .int .i64 n ∧ (0 ≤ n ↔ ¬ ∀ l ∈ s.tapes, ∀ x ∈ l, x < s.P)) := by
      intro d
      induction d with
      | zero =>
        intro j K hK hd hi ha
        apply L114_3_round
        unfold m114_4
        refine qQZ (q7Z _ _ _) (qJZ (fun hlt => absurd hlt (by omega)) (fun _ => ?_))
        unfold m114_1
        rw [List.take_of_length_le (by omega)] at ha
        exact ⟨hK, -1, rfl, ⟨fun h => absurd h (by omega), fun h => absurd ha h⟩⟩
      | succ d ih =>
        intro j K hK hd hi ha
        apply L114_3_round
        unfold m114_4
        refine qQZ (q7Z _ _ _) (qJZ (fun hlt => ?_) (fun hlt => absurd (by omega) hlt))
        have hil : j < s.tapes.length := by omega
        obtain ⟨pt, u, a1, a2, a3⟩ := (hok.tapes.mono hK).slice .i64 (i := (j : Int)) (by omega) (by omega) (ti := ty52) rfl
        have e : s.tapes.getD (j : Int).toNat [] = s.tapes[j] := by simp [hil]
        rw [e] at a3
        have one : qVZ Tryd.prog 87 [u, qTZ i] K (Dec (¬ ∀ x ∈ s.tapes[j], x < s.P) K) := by
          apply call87
          unfold m87
          exact p9Z (bigs_spec hs hK a3) fun r H' hr => hr
        refine qQZ a1 (qQZ a2 (oCl_ret rfl one fun r H' hr => ?_))
        obtain ⟨hl, b, rfl, hb⟩ := hr
        cases b with
        | true => exact qMZ ⟨hK.trans hl, j, rfl, ⟨fun _ h => hb.1 rfl (h _ (List.getElem_mem hil)), fun _ => by omega⟩⟩
        | false =>
          refine qLZ (qQZ (vInt_add _ _ _) ?_)
          rw [pBZ (by omega) (by omega)]
          refine ih (j + 1) H' (hK.trans hl) (by omega) (by omega) fun x hx => ?_
          rw [List.take_succ_eq_append_getElem hil] at hx
          rcases List.mem_append.1 hx with hx | hx
          · exact ha x hx
          · rw [List.mem_singleton.1 hx]
            exact Classical.byContradiction fun h => by have := hb.2 h; cases this
    exact key _ 0 H (Le.refl _) rfl (by omega) (by simp)
  refine p9Z idx fun r H' hr => ?_
  obtain ⟨hl, n, rfl, hn⟩ := hr
  exact qQZ (q0Z _ _ _) (dec_dec hl hn)
theorem pdevs_spec (hs : SAt H i s cv dv tv) (hok : ScnOk H s cv dv tv) (hk : ∀ d ∈ s.devs, 0 ≤ d.k ∧ d.k ≤ 18446744073709551615) : qVZ Tryd.prog 83 [dv, .func (.func 84) #[] #[qTZ i]] H (Dec (¬ ∀ d ∈ s.devs, devOk s.N d) H) := by
  have hm := hok.devs.max
  apply call83
  unfold m83
  have idx : qVZ Tryd.prog 113 [dv, .func (.func 84) #[] #[qTZ i]] H (Ret fun r H' => Le H H' ∧ ∃ n : Int, r = .int .i64 n ∧ (0 ≤ n ↔ ¬ ∀ d ∈ s.devs, devOk s.N d)) := by
    apply call113
    unfold m113 m113_2
    refine qQZ hok.devs.len ?_
    have key : ∀ (n j : Nat) (K : Heap), Le H K → s.devs.length - j = n → j ≤ s.devs.length → (∀ d ∈ s.devs.take j, devOk s.N d) → L113_3 dv (.func (.func 84) #[] #[qTZ i]) (.int .i64 s.devs.length) (.int .i64 j) K (fun H_8 => m113_1 H_8 (Ret fun r H' => Le H H' ∧ ∃ n : Int, r = .int .i64 n ∧ (0 ≤ n ↔ ¬ ∀ d ∈ s.devs, devOk s.N d))) (Ret fun r H' => Le H H' ∧ ∃ n : Int, r = .int .i64 n ∧ (0 ≤ n ↔ ¬ ∀ d ∈ s.devs, devOk s.N d)) := by
      intro d
      induction d with
      | zero =>
        intro j K hK hd hi ha
        apply L113_3_round
        unfold m113_4
        refine qQZ (q7Z _ _ _) (qJZ (fun hlt => absurd hlt (by omega)) (fun _ => ?_))
        unfold m113_1
        rw [List.take_of_length_le (by omega)] at ha
        exact ⟨hK, -1, rfl, ⟨fun h => absurd h (by omega), fun h => absurd ha h⟩⟩
      | succ d ih =>
        intro j K hK hd hi ha
        apply L113_3_round
        unfold m113_4
        refine qQZ (q7Z _ _ _) (qJZ (fun hlt => ?_) (fun hlt => absurd (by omega) hlt))
        have hil : j < s.devs.length := by omega
        obtain ⟨q, f1, f2⟩ := (hok.devs.mono hK).dev hil
        have hkd := hk _ (List.getElem_mem hil)
        have one : qVZ Tryd.prog 84 [s.devs[j].val, qTZ i] K (Dec (¬ devOk s.N s.devs[j]) K) := by
          apply call84
          unfold m84
          refine dev_new s.devs[j] fun i2 H2 l2 hd => ?_
          refine qQZ (q1Z _ _) (qQZ ((hs.mono hK).mono l2).par (qQZ hd.all (p9Z (lie_spec H2 s _ hkd.1 hkd.2) fun r H' hr => ?_)))
          obtain ⟨hl, b, rfl, hb⟩ := hr
          cases b with
          | true => exact qQZ (v := .bool false) rfl (dec_no (l2.trans hl) fun h => h (hb.1 rfl))
          | false => exact qQZ (v := .bool true) rfl (dec_yes (l2.trans hl) fun h => by have := hb.2 h; cases this)
        refine qQZ f1 (qQZ f2 (oCl_ret rfl one fun r H' hr => ?_))
        obtain ⟨hl, b, rfl, hb⟩ := hr
        cases b with
        | true => exact qMZ ⟨hK.trans hl, j, rfl, ⟨fun _ h => hb.1 rfl (h _ (List.getElem_mem hil)), fun _ => by omega⟩⟩
        | false =>
          refine qLZ (qQZ (vInt_add _ _ _) ?_)
          rw [pBZ (by omega) (by omega)]
          refine ih (j + 1) H' (hK.trans hl) (by omega) (by omega) fun x hx => ?_
          rw [List.take_succ_eq_append_getElem hil] at hx
          rcases List.mem_append.1 hx with hx | hx
          · exact ha x hx
          · rw [List.mem_singleton.1 hx]
            exact Classical.byContradiction fun h => by have := hb.2 h; cases this
    exact key _ 0 H (Le.refl _) rfl (by omega) (by simp)
  refine p9Z idx fun r H' hr => ?_
  obtain ⟨hl, n, rfl, hn⟩ := hr
  exact qQZ (q0Z _ _ _) (dec_dec hl hn)
theorem pscn_spec (hG : GL H) (hok : ScnOk H s cv dv tv) (hk : ∀ d ∈ s.devs, 0 ≤ d.k ∧ d.k ≤ 18446744073709551615) : qVZ Tryd.prog 52 [scnVal s cv dv tv] H (Dec (ScnV s) H) := by
  apply call52
  unfold m52
  refine scn_new s cv dv tv fun i H1 l1 hs => ?_
  refine qQZ (q1Z _ _) (qQZ hs.par (qQZ (q1Z _ _) (qQZ hs.c (p9Z (pcoal_spec (hok.bad.mono l1) s (hG.mono l1)) fun r H2 hr => ?_))))
  obtain ⟨l2, b, rfl, hb⟩ := hr
  replace hs := hs.mono l2
  have l := l1.trans l2
  cases b with
  | false => exact gK_TF (qMZ (dec_no l fun h => by have := hb.2 ⟨h.par, h.coal⟩; cases this))
  | true =>
    refine qQZ (v := .bool false) rfl (qQZ (v := .pointer (some ⟨i, 5, none⟩)) rfl (qQZ (v := tv) hs.t (qQZ (v := .int .i64 s.tapes.length) hok.tapes.len (qQZ (v := .pointer (some ⟨i, 0, none⟩)) rfl (qQZ (v := .pointer (some ⟨i, 1, none⟩)) rfl (qQZ (v := .int .i64 s.N) hs.n (qQZ (v := .bool (decide ((s.tapes.length : Int) ≠ s.N))) (q6Z .i64 (s.tapes.length : Int) s.N) (qQZ (v := .bool (decide ((s.tapes.length : Int) ≠ s.N))) rfl ?_))))))))
    by_cases c : (s.tapes.length : Int) ≠ s.N
    · rw [decide_eq_true c]
      exact gK_TF (qMZ (dec_no l fun h => c h.len))
    rw [decide_eq_false c]
    have c : (s.tapes.length : Int) = s.N := by simpa using c
    refine qQZ (v := .pointer (some ⟨i, 4, none⟩)) rfl (qQZ (v := dv) hs.ds (qQZ (v := .func (.func 84) #[] #[qTZ i]) rfl ?_))
    refine gK_FF (p9Z (pdevs_spec hs (hok.mono l) hk) fun r H3 hr => ?_)
    obtain ⟨l3, b2, rfl, hb2⟩ := hr
    replace hs := hs.mono l3
    replace l := l.trans l3
    cases b2 with
    | true => exact qQZ (v := .bool true) rfl (qMZ (dec_no l fun h => hb2.1 rfl h.devs))
    | false =>
      refine qQZ (v := .bool false) rfl (qLZ (qQZ (q1Z _ _) (qQZ hs.t (p9Z (ptapes_spec hs (hok.mono l)) fun r H4 hr => ?_))))
      obtain ⟨l4, b3, rfl, hb3⟩ := hr
      have hd : ∀ d ∈ s.devs, devOk s.N d := Classical.byContradiction fun h => by have := hb2.2 h; cases this
      cases b3 with
      | true => exact qQZ (v := .bool false) rfl (dec_no (l.trans l4) fun h => hb3.1 rfl h.tapes)
      | false => exact qQZ (v := .bool true) rfl (dec_yes (l.trans l4) ⟨(hb.1 rfl).1, (hb.1 rfl).2, c, hd, Classical.byContradiction fun h => by have := hb3.2 h; cases this⟩)
end
end

end Go.Proofs.YtchhpagkdaaglaaDoor.SL
