/- One deviation upon one message, in the program and in the reference. -/
import Derived.Test.YtchhpagkdaaglaaDoorAdvA
set_option linter.unusedVariables false
set_option linter.unusedSimpArgs false
namespace Go.Proofs.YtchhpagkdaaglaaDoor.SL
open Go

theorem rdSlice_len {sz n : Nat} {H : Heap} {b : Option Addr} {cs : List Value} (h : rdSlice sz H b n = some cs) : cs.length = n * sz := by
  unfold rdSlice at h
  by_cases hn : n = 0
  · subst hn
    simp at h
    subst h
    simp
  · rw [if_neg hn] at h
    cases b with
    | none => cases h
    | some a =>
      obtain ⟨i, off, sp⟩ := a
      cases sp with
      | some _ => cases h
      | none =>
        simp only [rdCells] at h
        cases hc : H i with
        | none => rw [hc] at h; cases h
        | some c =>
          rw [hc] at h
          cases c with
          | cells ds a e w =>
            simp only at h
            by_cases hle : off + n * sz ≤ ds.length
            · rw [if_pos hle] at h
              cases h
              rw [List.length_take, List.length_drop]
              omega
            · rw [if_neg hle] at h
              cases h
          | _ => cases h
theorem Sl.ints {k : IntKind} {H : Heap} {v : Value} {xs : List Int} (h : Sl (eInt k) H v xs) : ∃ b cap, v = .slice b xs.length cap ∧ xs.length ≤ cap ∧ xs.length ≤ 9223372036854775807 ∧ rdSlice 1 H b xs.length = some (xs.map (.int k)) := by
  obtain ⟨b, cap, cs, h1, h2, h3, h4, h5⟩ := h
  refine ⟨b, cap, h1, h2, h3, ?_⟩
  have e : cs = xs.map (.int k) := by
    have hl := rdSlice_len h4
    apply List.ext_getElem?
    intro i
    by_cases hi : i < xs.length
    · have := h5 i xs[i] (List.getElem?_eq_getElem hi)
      have e1 : (cs.drop (i * 1)).take 1 = [.int k xs[i]] := this
      have e2 := congrArg (·[0]?) e1
      simp only [List.getElem?_take, List.getElem?_drop] at e2
      simpa [hi] using e2
    · rw [List.getElem?_eq_none (by rw [hl]; show xs.length * 1 ≤ i; omega), List.getElem?_eq_none (by simp; omega)]
  rw [← e]
  exact h4
theorem Sl.slices {α : Type} {e : El α} {H : Heap} {v : Value} {rows : List (List α)} (h : Sl (eSlice e) H v rows) : ∃ b cap us, v = .slice b rows.length cap ∧ rows.length ≤ cap ∧ rows.length ≤ 9223372036854775807 ∧ rdSlice 1 H b rows.length = some us ∧ us.length = rows.length ∧ ∀ (j : Nat) u r, us[j]? = some u → rows[j]? = some r → Sl e H u r := by
  obtain ⟨b, cap, cs, h1, h2, h3, h4, h5⟩ := h
  have hl : cs.length = rows.length := by
    have := rdSlice_len h4
    rw [this]
    exact Nat.mul_one _
  refine ⟨b, cap, cs, h1, h2, h3, h4, hl, fun j u r hu hr => ?_⟩
  obtain ⟨w, e1, e2⟩ := h5 j r hr
  have e3 := congrArg (·[0]?) e1
  have hj : (cs.drop (j * 1))[0]? = some u := by rw [List.getElem?_drop]; simpa using hu
  have e4 : ((cs.drop (j * 1)).take 1)[0]? = some u := by rw [List.getElem?_take, if_pos (by decide)]; exact hj
  have e5 : ((cs.drop (j * 1)).take 1)[0]? = some w := e3
  rw [e4] at e5
  cases e5
  exact e2
theorem Sl.one {α : Type} {e : El α} {H : Heap} {v : Value} {xs : List α} (h : Sl e H v xs) : v.oneCell' = true := by
  obtain ⟨b, cap, cs, rfl, _⟩ := h
  rfl
theorem rdSlice_none {sz n : Nat} {H : Heap} {cs : List Value} (h : rdSlice sz H none n = some cs) : n = 0 := by
  unfold rdSlice at h
  by_cases hn : n = 0
  · exact hn
  · rw [if_neg hn] at h
    cases h
theorem clone_words {H : Heap} {v : Value} {xs : List Int} (h : Sl (eInt .u64) H v xs) (hn : xs.length ≤ 1000000000) : RCalls Tryd.prog 136 [v] H (Ret fun v' H' => Grown H H' 1 22 v' xs.length (xs.map (.int .u64))) := by
  apply call136
  unfold m136
  obtain ⟨b, cap, rfl, h2, h3, h4⟩ := h.ints
  cases b with
  | none =>
    have : xs = [] := List.eq_nil_of_length_eq_zero (rdSlice_none h4)
    subst this
    exact condK_true (Grown.nil H 1 22)
  | some a =>
    refine condK_false (append_copy (te := ty22) h4 ?_ (by show 0 < 1; omega) (by show xs.length * 8 ≤ _; omega) (by omega) (by simp [ty22]) fun v' H' hg => hg)
    intro v hv
    obtain ⟨x, _, rfl⟩ := List.mem_map.1 hv
    rfl
theorem clone_rows {H : Heap} {v : Value} {rows : List (List Int)} (h : Sl (eSlice (eInt .u64)) H v rows) (hn : rows.length ≤ 1000000) :
    RCalls Tryd.prog 109 [v] H (Ret fun v' H' => ∃ us, us.length = rows.length ∧ Grown H H' 1 52 v' rows.length us ∧ ∀ (j : Nat) u r, us[j]? = some u → rows[j]? = some r → Sl (eInt .u64) H u r) := by
  apply call109
  unfold m109
  obtain ⟨b, cap, us, rfl, h2, h3, h4, h5, h6⟩ := h.slices
  cases b with
  | none =>
    have : rows = [] := List.eq_nil_of_length_eq_zero (rdSlice_none h4)
    subst this
    exact condK_true ⟨[], rfl, Grown.nil H 1 52, fun j u r hu => by simp at hu⟩
  | some a =>
    refine condK_false (append_copy (te := ty52) h4 ?_ (by show 0 < 1; omega) (by show rows.length * 24 ≤ _; omega) (by omega) (by rw [h5]; exact (Nat.mul_one _).symm) fun v' H' hg => ⟨us, h5, hg, h6⟩)
    intro v hv
    obtain ⟨j, hj, rfl⟩ := List.mem_iff_getElem.1 hv
    exact (h6 j us[j] (rows[j]'(by omega)) (List.getElem?_eq_getElem hj) (List.getElem?_eq_getElem _)).one
/-! ### The message behind a deviation -/
def told (p : Int) (bad : List Int) (d : Dev) (l said : List Int) : List Int :=
  if d.kd = 4 then [] else if (l.length : Int) ≤ d.at_ then l else
  if d.kd = 1 then l.set d.at_.toNat (d.k % p) else if d.kd = 2 then l.set d.at_.toNat ((l.getD d.at_.toNat 0 + d.k % p) % p) else
  if d.kd = 3 then (if d.of_ ∈ bad then l else l.set d.at_.toNat ((l.getD d.at_.toNat 0 + d.k % p * word said d.src % p) % p)) else l
def rng (p : Int) (l : List Int) : Prop := ∀ x ∈ l, 0 ≤ x ∧ x < p
theorem rng_getD {p : Int} {l : List Int} (h : rng p l) (hp : 0 < p) (i : Nat) : 0 ≤ l.getD i 0 ∧ l.getD i 0 < p := by
  rw [List.getD_eq_getElem?_getD]
  cases he : l[i]? with
  | none => exact ⟨Int.le_refl _, hp⟩
  | some y => exact h y (List.mem_of_getElem? he)
theorem rng_word {p : Int} {l : List Int} (h : rng p l) (hp : 0 < p) (i : Int) : 0 ≤ word l i ∧ word l i < p := by
  unfold word
  split
  · exact ⟨Int.le_refl _, hp⟩
  · exact rng_getD h hp _
theorem rng_set {p : Int} {l : List Int} (h : rng p l) (i : Nat) {x : Int} (h0 : 0 ≤ x) (h1 : x < p) : rng p (l.set i x) := by
  intro y hy
  rcases List.mem_or_eq_of_mem_set hy with hy | rfl
  · exact h y hy
  · exact ⟨h0, h1⟩
theorem told_rng {p : Int} {bad : List Int} {d : Dev} {l said : List Int} (hp : 0 < p) (h : rng p l) : rng p (told p bad d l said) := by
  have m := fun x : Int => And.intro (Int.emod_nonneg x (show p ≠ 0 by omega)) (Int.emod_lt_of_pos x hp)
  unfold told
  split
  · intro x hx; cases hx
  · split
    · exact h
    · split
      · exact rng_set h _ (m _).1 (m _).2
      · split
        · exact rng_set h _ (m _).1 (m _).2
        · split
          · split
            · exact h
            · exact rng_set h _ (m _).1 (m _).2
          · exact h
theorem told_len {p : Int} {bad : List Int} {d : Dev} {l said : List Int} : (told p bad d l said).length ≤ l.length := by
  unfold told
  repeat' split
  all_goals simp
structure DevOk (N : Int) (d : Dev) : Prop where
  at0 : 0 ≤ d.at_
  src0 : 0 ≤ d.src
  fr1 : 1 ≤ d.fr
  fr2 : d.fr ≤ N
  to0 : 0 ≤ d.to_
  to2 : d.to_ ≤ N
  kd1 : 1 ≤ d.kd
  kd2 : d.kd ≤ 4
  of0 : 0 ≤ d.of_
  of2 : d.of_ ≤ N
  of3 : d.kd = 3 → 1 ≤ d.of_
  k0 : 0 ≤ d.k
  k1 : d.k ≤ 18446744073709551615
/-- It gives the words out: what it was given, or something new. -/
def Upd (H : Heap) (lv : Value) (l out : List Int) : Ending → Heap → Prop := Ret fun v H' => ∃ N, New H H' N ∧ ∀ R, Le R H → Sl (eInt .u64) R lv l → Sl (eInt .u64) (hun R N) v out
theorem upd_nil {H H' : Heap} {lv : Value} {l : List Int} (hl : Le H H') : Upd H lv l [] (.returned (.slice none 0 0)) H' := ⟨fun _ => none, ⟨hl, fun i c hc => (by cases hc), fun i hi => absurd rfl hi⟩, fun R _ _ => Sl.nil _ _⟩
theorem upd_same {H H' : Heap} {lv : Value} {l : List Int} (hl : Le H H') : Upd H lv l l (.returned lv) H' := ⟨fun _ => none, ⟨hl, fun i c hc => (by cases hc), fun i hi => absurd rfl hi⟩, fun R _ h => h.mono (hun_left _ _)⟩
theorem upd_new {H H' : Heap} {lv v : Value} {l out : List Int} {n : Nat} (h : Grown H H' 1 22 v n (out.map (.int .u64))) (hn : out.length = n) : Upd H lv l out (.returned v) H' := by
  subst hn
  obtain ⟨N, hN, hs⟩ := Grown.made (e := eInt .u64) (xs := out) h (fun K i x hx => one_get _ i (.int .u64 x) (by rw [List.getElem?_map, hx]; rfl))
  exact ⟨N, hN, fun R hR _ => hs.mono (hun_right fun k hk => none_le hR (hN.2.2 k hk))⟩
theorem set_same {l : List Int} {i : Nat} (h : i < l.length) : l.set i (l.getD i 0) = l := by
  have : l.getD i 0 = l[i] := by simp [h]
  rw [this, List.set_getElem_self]
section
variable {H : Heap} {s : Scn} {cv dv tv lv sv : Value} {d : Dev} {l said : List Int}
theorem upon_spec (hp : Supp s.P) (hb : Sl (eInt .i64) H cv s.bad) (hl : Sl (eInt .u64) H lv l) (hs : Sl (eInt .u64) H sv said) (hlr : rng s.P l) (hsr : rng s.P said) (hll : l.length ≤ 1000) (hd : DevOk s.N d) :
    RCalls Tryd.prog 111 [scnVal s cv dv tv, d.val, lv, sv] H (Upd H lv l (told s.P s.bad d l said)) := by
  have hpp := hp.pos
  have m := fun x : Int => And.intro (Int.emod_nonneg x (show s.P ≠ 0 by omega)) (Int.emod_lt_of_pos x (show 0 < s.P by omega))
  apply call111
  unfold m111
  refine scn_new s cv dv tv fun i1 H1 l1 hs1 => ?_
  refine dev_new d fun i2 H2 l2 hd2 => ?_
  have l12 := l1.trans l2
  have hs2 := hs1.mono l2
  have h4 := hd.kd1
  have h5 := hd.kd2
  refine oV_eq (vField_to _ _) (oV_eq hd2.l4 (oV_eq (vInt_eql _ _ _) (condK_dec (fun k4 => ?_) (fun k4 => ?_))))
  · rw [told, if_pos k4]
    exact upd_nil l12
  refine oV_eq (vField_to _ _) (oV_eq hd2.l3 (oV_eq hl.len (oV_eq (vInt_geq _ _ _) (condK_dec (fun c => ?_) (fun c => ?_)))))
  · rw [told, if_neg k4, if_pos c]
    exact upd_same l12
  refine oV_eq (vField_to _ _) (oV_eq (v := .pointer (some ⟨i1, 0, none⟩)) rfl (oV_eq hs2.p (oV_eq (vField_to _ _) (oV_eq hd2.l5 (oRC_val (reduce_spec H2 hp hd.k0 hd.k1) ?_)))))
  refine oRC_ret (clone_words (hl.mono l12) (by omega)) fun v H3 hg => ?_
  have l3 := hg.1
  have hd3 := hd2.mono l3
  have hs3 := hs2.mono l3
  have a0 := hd.at0
  have hat : d.at_.toNat < l.length := by omega
  have eat : ((d.at_.toNat : Nat) : Int) = d.at_ := by omega
  obtain ⟨q, x, g1, g2, g3, g4⟩ := hg.ix .i64 (i := d.at_.toNat) hat
  rw [eat] at g1
  have ex : x = .int .u64 (l.getD d.at_.toNat 0) := by
    rw [List.getElem?_map, List.getElem?_eq_getElem hat] at g2
    have := (Option.some.inj g2).symm
    rw [this]
    simp [hat]
  subst ex
  have rl := rng_getD hlr (by omega) d.at_.toNat
  have fin : ∀ y : Int, ∃ H', vStore ty22 q (.int .u64 y) H3 = some H' ∧ Upd H lv l (l.set d.at_.toNat y) (.returned v) H' := fun y => by
    obtain ⟨H', s1, s2, _⟩ := g4 ty22 (.int .u64 y) rfl rfl rfl
    refine ⟨H', s1, upd_new (n := l.length) ?_ (by simp)⟩
    rw [List.map_set]
    exact s2.less l12
  refine oV_eq (vField_to _ _) (oV_eq hd3.l4 (oV_eq (vInt_eql _ _ _) (condK_dec (fun k1 => ?_) (fun k1 => ?_))))
  · obtain ⟨H', s1, s2⟩ := fin (d.k % s.P)
    rw [told, if_neg k4, if_neg c, if_pos k1]
    exact oV_eq (vField_to _ _) (oV_eq hd3.l3 (oV_eq g1 (oHeap_eq s1 s2)))
  refine oV_eq (vInt_eql _ _ _) (condK_dec (fun k2 => ?_) (fun k2 => ?_))
  · obtain ⟨H', s1, s2⟩ := fin ((l.getD d.at_.toNat 0 + d.k % s.P) % s.P)
    rw [told, if_neg k4, if_neg c, if_neg k1, if_pos k2]
    exact oV_eq (vField_to _ _) (oV_eq hd3.l3 (oV_eq (vField_to _ _) (oV_eq hd3.l3 (oV_eq g1 (oV_eq (g3 ty22 rfl) (oRC_val (fadd_spec H3 hp rl.1 (m _).1 (by have := (m d.k).2; omega)) ⟨hd3.l3, oV_eq g1 (oHeap_eq s1 s2)⟩))))))
  have k3 : d.kd = 3 := by omega
  refine oV_eq (vInt_eql _ _ _) ?_
  rw [decide_eq_true k3]
  refine condK_true ?_
  refine oV_eq (vField_to _ _) (oV_eq hs3.c (oV_eq (vField_to _ _) (oV_eq hd3.l6 (oRC_val (contains_spec ((hb.mono l12).mono l3)) ?_))))
  rw [told, if_neg k4, if_neg c, if_neg k1, if_neg k2, if_pos k3]
  by_cases hof : d.of_ ∈ s.bad
  · rw [decide_eq_true hof, if_pos hof]
    obtain ⟨H', s1, s2⟩ := fin ((l.getD d.at_.toNat 0 + d.k % s.P * 0 % s.P) % s.P)
    have e1 : (l.getD d.at_.toNat 0 + d.k % s.P * 0 % s.P) % s.P = l.getD d.at_.toNat 0 := by
      rw [Int.mul_zero, Int.zero_emod, Int.add_zero, Int.emod_eq_of_lt rl.1 rl.2]
    refine oV_eq rfl (condK_false ?_)
    refine oV_eq (vField_to _ _) (oV_eq hd3.l3 (oV_eq (vField_to _ _) (oV_eq hd3.l3 (oV_eq g1 (oV_eq (g3 ty22 rfl) ?_)))))
    refine oRC_val (fmul_spec H3 hp (m _).1 (by have := (m d.k).2; omega) (by omega) (by omega)) ⟨g3 ty22 rfl, hd3.l3, hd3.l3, ?_⟩
    refine oRC_val (fadd_spec H3 hp rl.1 (m _).1 (by have := (m (d.k % s.P * 0)).2; omega)) ⟨hd3.l3, oV_eq g1 (oHeap_eq s1 ?_)⟩
    rw [e1, set_same hat] at s2
    exact s2
  · rw [decide_eq_false hof, if_neg hof]
    obtain ⟨H', s1, s2⟩ := fin ((l.getD d.at_.toNat 0 + d.k % s.P * word said d.src % s.P) % s.P)
    have rw_ := rng_word hsr (by omega) d.src
    refine oV_eq rfl (condK_true ?_)
    refine oV_eq (vField_to _ _) (oV_eq hd3.l7 (oRC_val (word_spec ((hs.mono l12).mono l3) d.src) ?_))
    refine oV_eq (vField_to _ _) (oV_eq hd3.l3 (oV_eq (vField_to _ _) (oV_eq hd3.l3 (oV_eq g1 (oV_eq (g3 ty22 rfl) ?_)))))
    refine oRC_val (fmul_spec H3 hp (m _).1 (by have := (m d.k).2; omega) rw_.1 (by omega)) ⟨g3 ty22 rfl, hd3.l3, hd3.l3, ?_⟩
    exact oRC_val (fadd_spec H3 hp rl.1 (m _).1 (by have := (m (d.k % s.P * word said d.src)).2; omega)) ⟨hd3.l3, oV_eq g1 (oHeap_eq s1 s2)⟩
theorem told_spec (hp : Supp s.P) (hb : Sl (eInt .i64) H cv s.bad) (hl : Sl (eInt .u64) H lv l) (hs : Sl (eInt .u64) H sv said) (hlr : rng s.P l) (hsr : rng s.P said) (hll : l.length ≤ 1000) (hd : DevOk s.N d) :
    RCalls Tryd.prog 118 [scnVal s cv dv tv, d.val, lv, sv] H (Upd H lv l (told s.P s.bad d l said)) := by
  have hpp := hp.pos
  have m := fun x : Int => And.intro (Int.emod_nonneg x (show s.P ≠ 0 by omega)) (Int.emod_lt_of_pos x (show 0 < s.P by omega))
  apply call118
  unfold m118
  refine scn_new s cv dv tv fun i1 H1 l1 hs1 => ?_
  refine dev_new d fun i2 H2 l2 hd2 => ?_
  have l12 := l1.trans l2
  have hs2 := hs1.mono l2
  have h4 := hd.kd1
  have h5 := hd.kd2
  have a0 := hd.at0
  refine oV_eq (vField_to _ _) (oV_eq hd2.l4 (oV_eq (vInt_eql _ _ _) (condK_dec (fun k4 => ?_) (fun k4 => ?_))))
  · rw [told, if_pos k4]
    exact upd_nil l12
  refine oV_eq (vField_to _ _) (oV_eq hd2.l3 (oV_eq (vInt_lss _ _ _) ?_))
  rw [decide_eq_false (show ¬ d.at_ < 0 by omega)]
  refine oV_eq (v := .pointer (some ⟨i2, 3, none⟩)) rfl (oV_eq (v := .int .i64 d.at_) hd2.l3 (oV_eq (v := lv) rfl (oV_eq (v := .int .i64 l.length) hl.len (oV_eq (v := .bool (decide ((l.length : Int) ≤ d.at_))) (vInt_geq .i64 d.at_ (l.length : Int)) (oV_eq (v := .bool (decide ((l.length : Int) ≤ d.at_))) rfl (condK_dec (fun c => ?_) (fun c => ?_)))))))
  · rw [told, if_neg k4, if_pos c]
    exact upd_same l12
  refine oV_eq (vField_to _ _) (oV_eq (v := .pointer (some ⟨i1, 0, none⟩)) rfl (oV_eq hs2.p ?_))
  obtain ⟨b, cap, rfl, e2, e3, e4⟩ := (hl.mono l12).ints
  refine append_copy (te := ty22) e4 (fun v hv => by obtain ⟨x, _, rfl⟩ := List.mem_map.1 hv; rfl) (by show 0 < 1; omega) (by show l.length * 8 ≤ _; omega) (by omega) (by simp [ty22]) fun v H3 hg => ?_
  have l3 := hg.1
  have hd3 := hd2.mono l3
  have hs3 := hs2.mono l3
  have hat : d.at_.toNat < l.length := by omega
  have eat : ((d.at_.toNat : Nat) : Int) = d.at_ := by omega
  obtain ⟨q, x, g1, g2, g3, g4⟩ := hg.ix .i64 (i := d.at_.toNat) hat
  rw [eat] at g1
  have ex : x = .int .u64 (l.getD d.at_.toNat 0) := by
    rw [List.getElem?_map, List.getElem?_eq_getElem hat] at g2
    have := (Option.some.inj g2).symm
    rw [this]
    simp [hat]
  subst ex
  have rl := rng_getD hlr (by omega) d.at_.toNat
  have fin : ∀ y : Int, ∃ H', vStore ty22 q (.int .u64 y) H3 = some H' ∧ Upd H (.slice b l.length cap) l (l.set d.at_.toNat y) (.returned v) H' := fun y => by
    obtain ⟨H', s1, s2, _⟩ := g4 ty22 (.int .u64 y) rfl rfl rfl
    refine ⟨H', s1, upd_new (n := l.length) ?_ (by simp)⟩
    rw [List.map_set]
    exact s2.less l12
  refine oV_eq (vField_to _ _) (oV_eq hd3.l5 (oV_eq (v := .int .u64 (d.k % s.P)) ?_ ?_))
  · rw [vInt_rem, if_neg (by omega), Int.tmod_eq_emod_of_nonneg hd.k0]
  refine oV_eq (vField_to _ _) (oV_eq hd3.l4 (oV_eq (vInt_eql _ _ _) (condK_dec (fun k1 => ?_) (fun k1 => ?_))))
  · obtain ⟨H', s1, s2⟩ := fin (d.k % s.P)
    rw [told, if_neg k4, if_neg c, if_pos k1]
    exact oV_eq (vField_to _ _) (oV_eq hd3.l3 (oV_eq g1 (oHeap_eq s1 s2)))
  refine oV_eq (vInt_eql _ _ _) (condK_dec (fun k2 => ?_) (fun k2 => ?_))
  · obtain ⟨H', s1, s2⟩ := fin ((l.getD d.at_.toNat 0 + d.k % s.P) % s.P)
    rw [told, if_neg k4, if_neg c, if_neg k1, if_pos k2]
    exact oV_eq (vField_to _ _) (oV_eq hd3.l3 (oV_eq (vField_to _ _) (oV_eq hd3.l3 (oV_eq g1 (oV_eq (g3 ty22 rfl) (oRC_val (radd_spec H3 (by omega) rl.1 (m _).1 (by have := (m d.k).2; omega)) ⟨hd3.l3, oV_eq g1 (oHeap_eq s1 s2)⟩))))))
  have k3 : d.kd = 3 := by omega
  refine oV_eq (vInt_eql _ _ _) ?_
  rw [decide_eq_true k3]
  refine condK_true ?_
  refine oV_eq hs3.all (oV_eq (vField_to _ _) (oV_eq hd3.l6 (oRC_grow (bad_spec ((hb.mono l12).mono l3)) fun H4 l4 => ?_)))
  rw [told, if_neg k4, if_neg c, if_neg k1, if_neg k2, if_pos k3]
  have hd4 := hd3.mono l4
  have hg4 := hg.le l4
  by_cases hof : d.of_ ∈ s.bad
  · rw [decide_eq_true hof, if_pos hof]
    refine oV_eq rfl (condK_false ?_)
    exact upd_new (n := l.length) (hg4.less l12) rfl
  · rw [decide_eq_false hof, if_neg hof]
    obtain ⟨q', x', g1', g2', g3', g4'⟩ := hg4.ix .i64 (i := d.at_.toNat) hat
    rw [eat] at g1'
    have ex : x' = .int .u64 (l.getD d.at_.toNat 0) := by
      rw [g2] at g2'
      exact (Option.some.inj g2').symm
    subst ex
    obtain ⟨H', s1, s2, _⟩ := g4' ty22 (.int .u64 ((l.getD d.at_.toNat 0 + d.k % s.P * word said d.src % s.P) % s.P)) rfl rfl rfl
    have rw_ := rng_word hsr (by omega) d.src
    refine oV_eq rfl (condK_true ?_)
    refine oV_eq (vField_to _ _) (oV_eq hd4.l3 (oV_eq (vField_to _ _) (oV_eq hd4.l3 (oV_eq g1' (oV_eq (g3' ty22 rfl) (oV_eq (vField_to _ _) (oV_eq hd4.l7 ?_)))))))
    refine oRC_val (rword_spec (((hs.mono l12).mono l3).mono l4) d.src) ⟨g3' ty22 rfl, hd4.l3, hd4.l3, ?_⟩
    refine oV_eq (v := .int .u64 (word said d.src)) ?_ ?_
    · rw [vInt_rem, if_neg (by omega), Int.tmod_eq_emod_of_nonneg rw_.1, Int.emod_eq_of_lt rw_.1 rw_.2]
    refine oRC_val (rmul_spec H4 hp (m _).1 (m _).2 rw_.1 rw_.2) ⟨g3' ty22 rfl, hd4.l3, hd4.l3, ?_⟩
    refine oRC_val (radd_spec H4 (by omega) rl.1 (m _).1 (by have := (m (d.k % s.P * word said d.src)).2; omega)) ⟨hd4.l3, oV_eq g1' (oHeap_eq s1 ?_)⟩
    refine upd_new (n := l.length) ?_ (by simp)
    rw [List.map_set]
    exact s2.less l12
end
end Go.Proofs.YtchhpagkdaaglaaDoor.SL
