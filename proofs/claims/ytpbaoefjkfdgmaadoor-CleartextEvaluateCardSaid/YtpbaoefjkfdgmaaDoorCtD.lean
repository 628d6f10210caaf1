/- The state of an evaluation, and what each kind of gate does with it. -/
import Derived.Test.YtpbaoefjkfdgmaaDoorCtC
set_option linter.unusedVariables false
set_option linter.unusedSimpArgs false
namespace Go.Proofs.YtpbaoefjkfdgmaaDoor.SL
open Go

theorem Grown.off {G H : Heap} {sz n j m : Nat} {e e' : TypeId} {v : Value} {cs cs' : List Value} {w : Bool} (h : Grown G H sz e v n cs) (hne : e ≠ e') (hj : H j = some (.cells cs' m e' w)) (hG : G j = none) (c : Blk) : Grown G (hins H j c) sz e v n cs :=
  ⟨fun i d hi => by rw [hins_other _ _ (fun e0 => by subst e0; rw [hG] at hi; cases hi)]; exact h.1 i d hi, h.2.1.other hne hj, h.2.2⟩
/-- The state of an evaluation: the values so far, the inputs that are left. -/
structure KSt (R H : Heap) (ik : Nat) (p : Int) (v wv : Value) (vs : List Int) (rows : List (List Int)) : Prop where
  kn : R ik = none
  blk : H ik = some (.cells [.int .u64 p, v, wv] 3 43 true)
  vals : Grown R H 1 22 v vs.length (vs.map (.int .u64))
  rows : Rw R H wv rows
section
variable {R H G : Heap} {ik i1 : Nat} {p : Int} {v wv : Value} {vs : List Int} {rows : List (List Int)} {g : Gate}
theorem KSt.mono (h : KSt R H ik p v wv vs rows) (hl : Le H G) : KSt R G ik p v wv vs rows := ⟨h.kn, hl _ _ h.blk, h.vals.le hl, h.rows.grow hl⟩
theorem KSt.le (h : KSt R H ik p v wv vs rows) : Le R H := h.rows.le
theorem KSt.lp (h : KSt R H ik p v wv vs rows) : vLoad ty22 (.pointer (some ⟨ik, 0, none⟩)) H = some (.int .u64 p) := by simp only [vLoad, h.blk]; rfl
theorem KSt.lv (h : KSt R H ik p v wv vs rows) : vLoad ty30 (.pointer (some ⟨ik, 1, none⟩)) H = some v := by simp only [vLoad, h.blk]; rfl
theorem KSt.lw (h : KSt R H ik p v wv vs rows) : vLoad ty27 (.pointer (some ⟨ik, 2, none⟩)) H = some wv := by simp only [vLoad, h.blk]; rfl
theorem KSt.sl (h : KSt R H ik p v wv vs rows) : Sl (eInt .u64) H v vs := Own.sl_int h.vals.2.1
theorem Own.one {sz : Nat} {e : TypeId} {v : Value} {n : Nat} {cs : List Value} (h : Own sz e H v n cs) : v.oneCell' = true := by
  rcases h with ⟨rfl, _⟩ | ⟨_, _, rfl, _⟩ <;> rfl
/-- The value of a gate is put behind the others. -/
theorem KSt.push {x : Int} {k : Value → Heap → Prop} (h : KSt R H ik p v wv vs rows) (hl : vs.length < 1000000) (hk : ∀ v' H', KSt R H' ik p v' wv (vs ++ [x]) rows → k v' H') :
    oBuildS ty22 22 1 [((0, 1), .int .u64 x)] H fun s_20 H_21 => oAppend ty22 22 v s_20 H_21 fun v_22 H_23 => oV (vNil (ptrTo ik)) fun t48 => oV (vField 1 t48) fun t49 => oHeap (vStore ty30 t49 v_22 H_23) fun H_26 => k v_22 H_26 := by
  refine Grown.appendF (te := ty22) h.vals rfl rfl (fun c hc => by rw [List.mem_singleton.1 hc]; rfl) (by show 0 < 1; omega) (by show (vs.length + 1) * 8 ≤ _; omega) (by omega) fun v' H' hg hs => ?_
  have hb := hs.2 _ _ _ _ _ h.blk (by decide)
  obtain ⟨us, u1, u2, u3⟩ := h.rows
  have hr := hs.1 u2 (by decide)
  have ho := hg.2.1.one
  have st : vStore ty30 (.pointer (some ⟨ik, 1, none⟩)) v' H' = some (hins H' ik (.cells [.int .u64 p, v', wv] 3 43 true)) := by
    simp only [vStore, hb, stCells]
    rw [if_neg (by decide), if_pos ⟨rfl, ho, by show 1 < 3; omega⟩]
    rfl
  refine oV_eq (v := ptrTo ik) rfl (oV_eq (vField_to _ _) (oHeap_eq st (hk v' _ ⟨h.kn, hins_self _ _ _, ?_, us, u1, hr.off (by decide) hb h.kn _, u3⟩)))
  rw [List.length_append, List.map_append]
  exact hg.off (by decide) hb h.kn _
/-! ### The operations -/
theorem g1_spec {j : Nat} {x : Int} {xs : List Int} (h : KSt R H ik p v wv vs rows) (hk : g.frm = j + 1) (hj : j < rows.length) (hx : rows.getD j [] = x :: xs) (hm : rows.length ≤ 1000000) : RCalls Tryd.prog 48 [ptrTo ik, g.val] H (Ret fun w H' => w = .int .u64 x ∧ KSt R H' ik p v wv vs (rows.set j xs)) := by
  apply call48
  unfold m48
  refine gate_new g fun i1 H1 l1 hg => ?_
  have h1 := h.mono l1
  have wj : vInt .sub (.int .i64 g.frm) (.int .i64 1) = some (.int .i64 j) := by
    rw [vInt_sub, wrap_i64 (by omega) (by omega), hk]
    congr 2
    omega
  obtain ⟨pt, u, a1, a2, a3⟩ := h1.rows.get hj
  rw [hx] at a3
  obtain ⟨u', b1, b2⟩ := a3.tail
  obtain ⟨pt2, H2, c1, c2, c3, c4⟩ := h1.rows.put hj b2
  rw [a1] at c1
  cases c1
  have s1 : ∀ {K : Prop} , K → K := fun h => h
  refine oV_eq (v := ptrTo ik) rfl (oV_eq (vField_to _ _) (oV_eq h1.lw (oV_eq (vField_to _ _) (oV_eq hg.l1 (oV_eq wj (oV_eq a1 (oV_eq a2 ?_)))))))
  refine oV_eq (v := ptrTo ik) rfl (oV_eq (vField_to _ _) (oV_eq h1.lw (oV_eq (vField_to _ _) (oV_eq hg.l1 (oV_eq wj (oV_eq b1 (oV_eq a1 (oHeap_eq c2 ?_))))))))
  obtain ⟨q, d1, d2⟩ := (a3.mono c3.le).int .i64 (i := 0) (by omega) (by simp) (ti := ty22) rfl
  exact oV_eq d1 (oV_eq d2 ⟨rfl, h1.kn, c4.2 _ _ _ _ _ h1.blk (by decide), c4.1 h1.vals (by decide), c3⟩)
theorem g2_spec (h : KSt R H ik p v wv vs rows) : RCalls Tryd.prog 49 [ptrTo ik, g.val] H (Ret fun w H' => w = .int .u64 g.k ∧ KSt R H' ik p v wv vs rows) := by
  apply call49
  unfold m49
  refine gate_new g fun i1 H1 l1 hg => ?_
  exact oV_eq (vField_to _ _) (oV_eq hg.l4 ⟨rfl, h.mono l1⟩)
def rngs (p : Int) (vs : List Int) : Prop := ∀ x ∈ vs, 0 ≤ x ∧ x < p
theorem rngs.get (h : rngs p vs) (hp : 0 < p) (i : Nat) : 0 ≤ vs.getD i 0 ∧ vs.getD i 0 < p := by
  rw [List.getD_eq_getElem?_getD]
  cases he : vs[i]? with
  | none => exact ⟨Int.le_refl _, hp⟩
  | some y => exact h y (List.mem_of_getElem? he)
theorem g3_spec (h : KSt R H ik p v wv vs rows) (hp : Supp p) (hr : rngs p vs) (ha0 : 0 ≤ g.a) (ha1 : g.a < vs.length) (hb0 : 0 ≤ g.b) (hb1 : g.b < vs.length) :
    RCalls Tryd.prog 50 [ptrTo ik, g.val] H (Ret fun w H' => w = .int .u64 ((vs.getD g.a.toNat 0 + vs.getD g.b.toNat 0) % p) ∧ KSt R H' ik p v wv vs rows) := by
  have hpp := hp.pos
  apply call50
  unfold m50
  refine gate_new g fun i1 H1 l1 hg => ?_
  have h1 := h.mono l1
  have ra := hr.get (by omega) g.a.toNat
  have rb := hr.get (by omega) g.b.toNat
  obtain ⟨pa, a1, a2⟩ := h1.sl.int .i64 (i := g.a) ha0 ha1 (ti := ty22) rfl
  obtain ⟨pb, b1, b2⟩ := h1.sl.int .i64 (i := g.b) hb0 hb1 (ti := ty22) rfl
  refine oV_eq (v := ptrTo ik) rfl (oV_eq (vField_to _ _) (oV_eq h1.lp ?_))
  refine oV_eq (v := ptrTo ik) rfl (oV_eq (vField_to _ _) (oV_eq h1.lv (oV_eq (vField_to _ _) (oV_eq hg.l2 (oV_eq a1 (oV_eq a2 ?_))))))
  refine oV_eq (v := ptrTo ik) rfl (oV_eq (vField_to _ _) (oV_eq h1.lv (oV_eq (vField_to _ _) (oV_eq hg.l3 (oV_eq b1 (oV_eq b2 ?_))))))
  exact oRC_val (fadd_spec H1 hp ra.1 rb.1 (by omega)) ⟨rfl, h1⟩
theorem g4_spec (h : KSt R H ik p v wv vs rows) (hp : Supp p) (hr : rngs p vs) (ha0 : 0 ≤ g.a) (ha1 : g.a < vs.length) (hb0 : 0 ≤ g.b) (hb1 : g.b < vs.length) :
    RCalls Tryd.prog 52 [ptrTo ik, g.val] H (Ret fun w H' => w = .int .u64 ((vs.getD g.a.toNat 0 - vs.getD g.b.toNat 0) % p) ∧ KSt R H' ik p v wv vs rows) := by
  have hpp := hp.pos
  apply call52
  unfold m52
  refine gate_new g fun i1 H1 l1 hg => ?_
  have h1 := h.mono l1
  have ra := hr.get (by omega) g.a.toNat
  have rb := hr.get (by omega) g.b.toNat
  obtain ⟨pa, a1, a2⟩ := h1.sl.int .i64 (i := g.a) ha0 ha1 (ti := ty22) rfl
  obtain ⟨pb, b1, b2⟩ := h1.sl.int .i64 (i := g.b) hb0 hb1 (ti := ty22) rfl
  refine oV_eq (v := ptrTo ik) rfl (oV_eq (vField_to _ _) (oV_eq h1.lp ?_))
  refine oV_eq (v := ptrTo ik) rfl (oV_eq (vField_to _ _) (oV_eq h1.lv (oV_eq (vField_to _ _) (oV_eq hg.l2 (oV_eq a1 (oV_eq a2 ?_))))))
  refine oV_eq (v := ptrTo ik) rfl (oV_eq (vField_to _ _) (oV_eq h1.lv (oV_eq (vField_to _ _) (oV_eq hg.l3 (oV_eq b1 (oV_eq b2 ?_))))))
  exact oRC_val (fsub_spec H1 hp ra.1 ra.2 rb.1 rb.2) ⟨rfl, h1⟩
theorem g6_spec (h : KSt R H ik p v wv vs rows) (hp : Supp p) (hr : rngs p vs) (ha0 : 0 ≤ g.a) (ha1 : g.a < vs.length) (hb0 : 0 ≤ g.b) (hb1 : g.b < vs.length) :
    RCalls Tryd.prog 56 [ptrTo ik, g.val] H (Ret fun w H' => w = .int .u64 (vs.getD g.a.toNat 0 * vs.getD g.b.toNat 0 % p) ∧ KSt R H' ik p v wv vs rows) := by
  have hpp := hp.pos
  apply call56
  unfold m56
  refine gate_new g fun i1 H1 l1 hg => ?_
  have h1 := h.mono l1
  have ra := hr.get (by omega) g.a.toNat
  have rb := hr.get (by omega) g.b.toNat
  obtain ⟨pa, a1, a2⟩ := h1.sl.int .i64 (i := g.a) ha0 ha1 (ti := ty22) rfl
  obtain ⟨pb, b1, b2⟩ := h1.sl.int .i64 (i := g.b) hb0 hb1 (ti := ty22) rfl
  refine oV_eq (v := ptrTo ik) rfl (oV_eq (vField_to _ _) (oV_eq h1.lp ?_))
  refine oV_eq (v := ptrTo ik) rfl (oV_eq (vField_to _ _) (oV_eq h1.lv (oV_eq (vField_to _ _) (oV_eq hg.l2 (oV_eq a1 (oV_eq a2 ?_))))))
  refine oV_eq (v := ptrTo ik) rfl (oV_eq (vField_to _ _) (oV_eq h1.lv (oV_eq (vField_to _ _) (oV_eq hg.l3 (oV_eq b1 (oV_eq b2 ?_))))))
  exact oRC_val (fmul_spec H1 hp ra.1 (by omega) rb.1 (by omega)) ⟨rfl, h1⟩
theorem g5_spec (h : KSt R H ik p v wv vs rows) (hp : Supp p) (hr : rngs p vs) (ha0 : 0 ≤ g.a) (ha1 : g.a < vs.length) (hk0 : 0 ≤ g.k) (hk1 : g.k < p) :
    RCalls Tryd.prog 54 [ptrTo ik, g.val] H (Ret fun w H' => w = .int .u64 (g.k * vs.getD g.a.toNat 0 % p) ∧ KSt R H' ik p v wv vs rows) := by
  have hpp := hp.pos
  apply call54
  unfold m54
  refine gate_new g fun i1 H1 l1 hg => ?_
  have h1 := h.mono l1
  have ra := hr.get (by omega) g.a.toNat
  obtain ⟨pa, a1, a2⟩ := h1.sl.int .i64 (i := g.a) ha0 ha1 (ti := ty22) rfl
  refine oV_eq (v := ptrTo ik) rfl (oV_eq (vField_to _ _) (oV_eq h1.lp (oV_eq (vField_to _ _) (oV_eq hg.l4 ?_))))
  refine oV_eq (v := ptrTo ik) rfl (oV_eq (vField_to _ _) (oV_eq h1.lv (oV_eq (vField_to _ _) (oV_eq hg.l2 (oV_eq a1 (oV_eq a2 ?_))))))
  exact oRC_val (fmul_spec H1 hp hk0 (by omega) ra.1 (by omega)) ⟨rfl, h1⟩
/-! ### Any gate -/
def restOf (l : List (List Int)) (gs : List Gate) (i : Nat) : List (List Int) := (List.range l.length).map fun (j : Nat) => (l.getD j []).drop (inCount (j + 1) (gs.take i))
theorem rest_len (l : List (List Int)) (gs : List Gate) (i : Nat) : (restOf l gs i).length = l.length := by simp [restOf]
theorem rest_get (l : List (List Int)) (gs : List Gate) (i : Nat) {j : Nat} (h : j < l.length) : (restOf l gs i)[j]? = some (l[j].drop (inCount (j + 1) (gs.take i))) := by
  simp [restOf, h]
theorem rest_zero (l : List (List Int)) (gs : List Gate) : restOf l gs 0 = l := by
  apply List.ext_getElem?
  intro x
  by_cases hx : x < l.length
  · rw [rest_get _ _ _ hx, List.getElem?_eq_getElem hx]
    simp [inCount]
  · rw [List.getElem?_eq_none (by rw [rest_len]; omega), List.getElem?_eq_none (by omega)]
theorem rest_skip (l : List (List Int)) (gs : List Gate) {i : Nat} (h : i < gs.length) (hk : gs[i].kind ≠ 1) : restOf l gs (i + 1) = restOf l gs i := by
  unfold restOf
  apply List.map_congr_left
  intro j _
  rw [inCount_take _ gs i h, if_neg (fun c => hk c.1)]
  rfl
theorem rest_take (l : List (List Int)) (gs : List Gate) {i j : Nat} (h : i < gs.length) (hk : gs[i].kind = 1) (hj : j < l.length) (hf : gs[i].frm = j + 1) : restOf l gs (i + 1) = (restOf l gs i).set j (l[j].drop (inCount (j + 1) (gs.take i) + 1)) := by
  apply List.ext_getElem?
  intro x
  by_cases hx : x < l.length
  · rw [rest_get _ _ _ hx, List.getElem?_set, inCount_take _ gs i h]
    by_cases e : j = x
    · subst e
      rw [if_pos rfl, if_pos ⟨hk, hf⟩, if_pos (by rw [rest_len]; exact hx)]
    · rw [if_neg e, rest_get _ _ _ hx, if_neg (fun c => e (by have := c.2; omega))]
      rfl
  · rw [List.getElem?_eq_none (by rw [rest_len]; omega), List.getElem?_eq_none (by rw [List.length_set, rest_len]; omega)]
/-- The inputs are such as the circuit asks for. -/
structure InOk (p : Int) (gs : List Gate) (l : List (List Int)) : Prop where
  len : l.length ≤ 1000000
  fr : ∀ (i : Nat) (h : i < gs.length), gs[i].kind = 1 → gs[i].frm ≤ l.length
  at_ : ∀ (j : Nat) (h : j < l.length), l[j].length = inCount (j + 1) gs ∧ ∀ x ∈ l[j], 0 ≤ x ∧ x < p
theorem gval_rng {gs : List Gate} {l : List (List Int)} {i : Nat} (hp : 0 < p) (ho : InOk p gs l) (hv : validGates p gs) (hwf : wfG gs) (h : i < gs.length) (vs : List Int) : 0 ≤ gval p l (gs.take i) vs gs[i] ∧ gval p l (gs.take i) vs gs[i] < p := by
  unfold gval
  have hvi := hv i h
  have hk0 := hwf gs[i] (List.getElem_mem _)
  split
  · rw [List.getD_eq_getElem?_getD]
    cases he : (l.getD (gs[i].frm - 1).toNat [])[inCount gs[i].frm (gs.take i)]? with
    | none => exact ⟨Int.le_refl _, hp⟩
    | some y' =>
      rw [List.getD_eq_getElem?_getD] at he
      cases he2 : l[(gs[i].frm - 1).toNat]? with
      | none => rw [he2] at he; simp at he
      | some l' =>
        rw [he2] at he
        obtain ⟨hj, rfl⟩ := List.getElem?_eq_some_iff.1 he2
        exact (ho.at_ _ hj).2 y' (List.mem_of_getElem? he)
  · split
    · exact ⟨Int.emod_nonneg _ (by omega), Int.emod_lt_of_pos _ hp⟩
    · split
      · exact ⟨Int.emod_nonneg _ (by omega), Int.emod_lt_of_pos _ hp⟩
      · split
        · exact ⟨Int.emod_nonneg _ (by omega), Int.emod_lt_of_pos _ hp⟩
        · split
          · exact ⟨Int.emod_nonneg _ (by omega), Int.emod_lt_of_pos _ hp⟩
          · exact ⟨hk0, (valid_const hvi (by assumption) (by assumption) (by assumption) (by assumption) (by assumption)).2⟩
theorem vals_rng {gs : List Gate} {l : List (List Int)} (hp : 0 < p) (ho : InOk p gs l) (hv : validGates p gs) (hwf : wfG gs) : ∀ (i : Nat), i ≤ gs.length → rngs p (valsTo p l gs i)
  | 0, _ => fun x hx => by cases hx
  | i + 1, h => by
    rw [valsTo_succ p l gs (by omega)]
    intro x hx
    rcases List.mem_append.1 hx with hx | hx
    · exact vals_rng hp ho hv hwf i (by omega) x hx
    · rw [List.mem_singleton.1 hx]
      exact gval_rng hp ho hv hwf (by omega) _
theorem any_gate {gs : List Gate} {l : List (List Int)} {i : Nat} (hG : GL R) (hp : Supp p) (ho : InOk p gs l) (hv : validGates p gs) (hwf : wfG gs) (hi : i < gs.length) (h : KSt R H ik p v wv (valsTo p l gs i) (restOf l gs i)) :
    ∃ f, vIdxA 7 1 (.pointer (some ⟨0, 0, none⟩)) (.int .i64 gs[i].kind) = some (.pointer (some ⟨0, gs[i].kind.toNat, none⟩)) ∧ vLoad ty44 (.pointer (some ⟨0, gs[i].kind.toNat, none⟩)) H = some (fnV f) ∧ ext f = none ∧
      RCalls Tryd.prog f [ptrTo ik, gs[i].val] H (Ret fun w H' => w = .int .u64 (gval p l (gs.take i) (valsTo p l gs i) gs[i]) ∧ KSt R H' ik p v wv (valsTo p l gs i) (restOf l gs (i + 1))) := by
  obtain ⟨n, e, w, h0⟩ := hG.g0
  have hb := h.le _ _ h0
  have hpp := hp.pos
  have hr := vals_rng (by omega) ho hv hwf i (by omega)
  have hvl := valsTo_len p l gs i (by omega)
  have hvi := hv i hi
  have hk0 := hwf gs[i] (List.getElem_mem _)
  have hsk := fun (hk : gs[i].kind ≠ 1) => rest_skip l gs hi hk
  have htk := fun (j : Nat) (hk : gs[i].kind = 1) (hj : j < l.length) (hf : gs[i].frm = j + 1) => rest_take l gs hi hk hj hf
  have hfr := ho.fr i hi
  have hcl := fun (f : Int) (hk : gs[i].kind = 1) (hf : gs[i].frm = f) => inCount_lt gs hi f hk hf
  have kinds : gs[i].kind = 1 ∨ gs[i].kind = 2 ∨ gs[i].kind = 3 ∨ gs[i].kind = 4 ∨ gs[i].kind = 5 ∨ gs[i].kind = 6 := by
    unfold validGate at hvi
    omega
  generalize gs[i] = g at *
  rcases kinds with k | k | k | k | k | k
  · refine ⟨48, by rw [k]; rfl, by rw [k]; simp only [vLoad, hb]; rfl, rfl, ?_⟩
    obtain ⟨f1, f2, _, _, _⟩ := valid_in hvi k
    have f3 := hfr k
    obtain ⟨j, hj⟩ : ∃ j : Nat, g.frm = j + 1 := ⟨(g.frm - 1).toNat, by omega⟩
    have hjl : j < l.length := by omega
    have hlen := (ho.at_ j hjl).1
    have hc := hcl (j + 1) k hj
    have hc2 : inCount (j + 1) (gs.take i) < l[j].length := by omega
    have e1 : (restOf l gs i).getD j [] = l[j][inCount (j + 1) (gs.take i)] :: l[j].drop (inCount (j + 1) (gs.take i) + 1) := by
      rw [List.getD_eq_getElem?_getD, rest_get _ _ _ hjl]
      show l[j].drop _ = _
      rw [List.drop_eq_getElem_cons hc2]
    have := g1_spec (g := g) h hj (by rw [rest_len]; exact hjl) e1 (by rw [rest_len]; exact ho.len)
    rw [htk j k hjl hj]
    have e2 : gval p l (gs.take i) (valsTo p l gs i) g = l[j][inCount (j + 1) (gs.take i)] := by
      simp only [gval, if_pos k, hj]
      rw [show ((j : Int) + 1 - 1).toNat = j by omega]
      simp [hjl, hc2]
    rw [e2]
    exact this
  · refine ⟨49, by rw [k]; rfl, by rw [k]; simp only [vLoad, hb]; rfl, rfl, ?_⟩
    rw [hsk (by omega), show gval p l (gs.take i) (valsTo p l gs i) g = g.k by simp [gval, k]]
    exact g2_spec h
  · refine ⟨50, by rw [k]; rfl, by rw [k]; simp only [vLoad, hb]; rfl, rfl, ?_⟩
    obtain ⟨ha0, ha1, hb0, hb1⟩ := valid_two hvi (by omega)
    rw [hsk (by omega), show gval p l (gs.take i) (valsTo p l gs i) g = ((valsTo p l gs i).getD g.a.toNat 0 + (valsTo p l gs i).getD g.b.toNat 0) % p by simp [gval, k]]
    exact g3_spec h hp hr ha0 (by omega) hb0 (by omega)
  · refine ⟨52, by rw [k]; rfl, by rw [k]; simp only [vLoad, hb]; rfl, rfl, ?_⟩
    obtain ⟨ha0, ha1, hb0, hb1⟩ := valid_two hvi (by omega)
    rw [hsk (by omega), show gval p l (gs.take i) (valsTo p l gs i) g = ((valsTo p l gs i).getD g.a.toNat 0 - (valsTo p l gs i).getD g.b.toNat 0) % p by simp [gval, k]]
    exact g4_spec h hp hr ha0 (by omega) hb0 (by omega)
  · refine ⟨54, by rw [k]; rfl, by rw [k]; simp only [vLoad, hb]; rfl, rfl, ?_⟩
    obtain ⟨ha0, ha1, hkp⟩ := valid_scale hvi k
    rw [hsk (by omega), show gval p l (gs.take i) (valsTo p l gs i) g = g.k * (valsTo p l gs i).getD g.a.toNat 0 % p by simp [gval, k]]
    exact g5_spec h hp hr ha0 (by omega) hk0 hkp
  · refine ⟨56, by rw [k]; rfl, by rw [k]; simp only [vLoad, hb]; rfl, rfl, ?_⟩
    obtain ⟨ha0, ha1, hb0, hb1⟩ := valid_two hvi (by omega)
    rw [hsk (by omega), show gval p l (gs.take i) (valsTo p l gs i) g = (valsTo p l gs i).getD g.a.toNat 0 * (valsTo p l gs i).getD g.b.toNat 0 % p by simp [gval, k]]
    exact g6_spec h hp hr ha0 (by omega) hb0 (by omega)
end
end Go.Proofs.YtpbaoefjkfdgmaaDoor.SL
