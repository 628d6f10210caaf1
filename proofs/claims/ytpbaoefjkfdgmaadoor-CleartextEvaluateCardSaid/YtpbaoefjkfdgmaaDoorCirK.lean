/- The reference's evaluation of a circuit. -/
import Derived.Test.YtpbaoefjkfdgmaaDoorCirJ
set_option linter.unusedVariables false
set_option linter.unusedSimpArgs false
namespace Go.Proofs.YtpbaoefjkfdgmaaDoor.SL
open Go

def gval (p : Int) (l : List (List Int)) (pre : List Gate) (v : List Int) (g : Gate) : Int :=
  if g.kind = 1 then (l.getD (g.frm - 1).toNat []).getD (inCount g.frm pre) 0
  else if g.kind = 3 then (v.getD g.a.toNat 0 + v.getD g.b.toNat 0) % p
  else if g.kind = 4 then (v.getD g.a.toNat 0 - v.getD g.b.toNat 0) % p
  else if g.kind = 5 then g.k * v.getD g.a.toNat 0 % p
  else if g.kind = 6 then v.getD g.a.toNat 0 * v.getD g.b.toNat 0 % p
  else g.k
/-- The values of the first gates. -/
def valsTo (p : Int) (l : List (List Int)) (gs : List Gate) : Nat → List Int
  | 0 => []
  | i + 1 => valsTo p l gs i ++ (match gs[i]? with
    | some g => [gval p l (gs.take i) (valsTo p l gs i) g]
    | none => [])
def vals (p : Int) (l : List (List Int)) (gs : List Gate) : List Int := valsTo p l gs gs.length
theorem valsTo_succ (p : Int) (l : List (List Int)) (gs : List Gate) {i : Nat} (h : i < gs.length) : valsTo p l gs (i + 1) = valsTo p l gs i ++ [gval p l (gs.take i) (valsTo p l gs i) gs[i]] := by
  simp only [valsTo, List.getElem?_eq_getElem h]
theorem valsTo_len (p : Int) (l : List (List Int)) (gs : List Gate) : ∀ (i : Nat), i ≤ gs.length → (valsTo p l gs i).length = i
  | 0, _ => rfl
  | i + 1, h => by rw [valsTo_succ p l gs (by omega), List.length_append, valsTo_len p l gs i (by omega)]; rfl
theorem valsTo_append (p : Int) (l : List (List Int)) (gs hs : List Gate) : ∀ (i : Nat), i ≤ gs.length → valsTo p l (gs ++ hs) i = valsTo p l gs i
  | 0, _ => rfl
  | i + 1, h => by
    rw [valsTo_succ p l gs (by omega), valsTo_succ p l (gs ++ hs) (by rw [List.length_append]; omega), valsTo_append p l gs hs i (by omega), List.take_append_of_le_length (by omega), List.getElem_append_left (by omega)]
theorem vals_snoc (p : Int) (l : List (List Int)) (gs : List Gate) (g : Gate) : vals p l (gs ++ [g]) = vals p l gs ++ [gval p l gs (vals p l gs) g] := by
  have h : gs.length < (gs ++ [g]).length := by simp
  unfold vals
  rw [show (gs ++ [g]).length = gs.length + 1 by simp, valsTo_succ p l _ h, valsTo_append p l gs [g] _ (Nat.le_refl _), List.take_append_of_le_length (Nat.le_refl _), List.take_length]
  simp
theorem vals_len (p : Int) (l : List (List Int)) (gs : List Gate) : (vals p l gs).length = gs.length := valsTo_len p l gs _ (Nat.le_refl _)
theorem valid_two {p i : Int} {g : Gate} (h : validGate p i g) (hk : g.kind = 3 ∨ g.kind = 4 ∨ g.kind = 6) : 0 ≤ g.a ∧ g.a < i ∧ 0 ≤ g.b ∧ g.b < i := by
  unfold validGate at h
  omega
theorem valid_scale {p i : Int} {g : Gate} (h : validGate p i g) (hk : g.kind = 5) : 0 ≤ g.a ∧ g.a < i ∧ g.k < p := by
  unfold validGate at h
  omega
theorem valid_const {p i : Int} {g : Gate} (h : validGate p i g) (h1 : g.kind ≠ 1) (h3 : g.kind ≠ 3) (h4 : g.kind ≠ 4) (h5 : g.kind ≠ 5) (h6 : g.kind ≠ 6) : g.kind = 2 ∧ g.k < p := by
  unfold validGate at h
  omega
def wfG (gs : List Gate) : Prop := ∀ g ∈ gs, 0 ≤ g.k
def wfI (ins : List (List Int)) : Prop := ∀ l ∈ ins, ∀ x ∈ l, 0 ≤ x
section
variable {jc : Nat} {p : Int} {gv ov lv av : Value} {gs : List Gate} {os : List Int} {l : List (List Int)}
theorem eval_loop {G : Heap} (hc : CircAt G jc p gv ov gs os) (hl : Sl (eSlice (eInt .u64)) G lv l) (hp : Supp p) (hv : validGates p gs) (hgl : gs.length ≤ 20000) (hwf : wfG gs) (hll : l.length ≤ 1000000)
    (hfr : ∀ (i : Nat) (h : i < gs.length), gs[i].kind = 1 → gs[i].frm ≤ l.length) (hin : ∀ (j : Nat) (h : j < l.length), l[j].length = inCount (j + 1) gs ∧ ∀ x ∈ l[j], 0 ≤ x ∧ x < p) {kn : Value → Heap → Prop} {Q : Ending → Heap → Prop}
    (h1 : ∀ v K, Grown G K 1 22 v gs.length ((vals p l gs).map (.int .u64)) → (∀ x ∈ vals p l gs, 0 ≤ x ∧ x < p) → kn v K) :
    ∀ (d i : Nat) (K : Heap) (v : Value), gs.length - i = d → i ≤ gs.length → Grown G K 1 3 av l.length (icells (counts l.length (gs.take i))) → Grown G K 1 22 v i ((valsTo p l gs i).map (.int .u64)) → (∀ x ∈ valsTo p l gs i, 0 ≤ x ∧ x < p) →
      L7_3 (ptrTo jc) lv av v (.int .i64 i) K kn Q
  | d, i, K, v, hd, hi, hat, hvg, hvr => by
    apply L7_3_round
    unfold m7_4
    have hcK := hc.mono hat.1
    have hpp : 0 < p := by have := hp.pos; omega
    have hpm := hp.pos
    simp only [↓hs_some, ↓hs_fieldto, ↓hs_field, ↓hs_nilto, ↓hs_nilp, ↓hs_gTT, ↓hs_gFF, ↓hs_gTF, ↓hs_gFT, ↓hs_pickT, ↓hs_pickF, ↓hs_not, ↓hs_len, ↓hs_conv, ↓hs_ex0, ↓hs_ex1, ↓hs_add, ↓hs_sub, ↓hs_mul, ↓hs_eql, ↓hs_neq, ↓hs_lss, ↓hs_leq, ↓hs_gtr, ↓hs_geq, ↓oV_of hcK.lg, ↓oV_of hcK.gates.len]
    refine condK_dec (fun hlt => ?_) (fun hlt => ?_)
    rotate_left
    · have hie : i = gs.length := by omega
      subst hie
      exact h1 v K hvg hvr
    have hlt' : i < gs.length := by omega
    obtain ⟨q, off, g1, g2, _, _⟩ := hcK.gates.gate hlt'
    simp only [↓hs_some, ↓hs_fieldto, ↓hs_field, ↓hs_nilto, ↓hs_nilp, ↓hs_gTT, ↓hs_gFF, ↓hs_gTF, ↓hs_gFT, ↓hs_pickT, ↓hs_pickF, ↓hs_not, ↓hs_len, ↓hs_conv, ↓hs_ex0, ↓hs_ex1, ↓hs_add, ↓hs_sub, ↓hs_mul, ↓hs_eql, ↓hs_neq, ↓hs_lss, ↓hs_leq, ↓hs_gtr, ↓hs_geq, ↓oV_of hcK.lg, ↓oV_of g1, ↓oV_of g2]
    refine local_gate gs[i] fun x hx => ?_
    have hga : GateAt (hins K x (.cells gs[i].cells 5 37 true)) x gs[i] := ⟨hins_self _ _ _⟩
    have hle := Le.ins (.cells gs[i].cells 5 37 true) hx
    generalize hins K x (.cells gs[i].cells 5 37 true) = K1 at hga hle ⊢
    replace hat := hat.le hle
    replace hvg := hvg.le hle
    replace hcK := hcK.mono hle
    have w1 := wrap_i64 (show -9223372036854775808 ≤ (i : Int) + 1 by omega) (by omega)
    have hvl := valsTo_len p l gs i (by omega)
    have hvs : Sl (eInt .u64) K1 v (valsTo p l gs i) := Own.sl_int (by rw [hvl]; exact hvg.2.1)
    have hr : ∀ k : Nat, 0 ≤ (valsTo p l gs i).getD k 0 ∧ (valsTo p l gs i).getD k 0 < p := fun k => by
      rw [List.getD_eq_getElem?_getD]
      cases he : (valsTo p l gs i)[k]? with
      | none => exact ⟨Int.le_refl _, hpp⟩
      | some y => exact hvr y (List.mem_of_getElem? he)
    have next : ∀ (y : Int) (v' : Value) (K2 : Heap), Grown G K2 1 22 v' (i + 1) ((valsTo p l gs i).map (.int .u64) ++ [.int .u64 y]) → Grown G K2 1 3 av l.length (icells (counts l.length (gs.take (i + 1)))) → gval p l (gs.take i) (valsTo p l gs i) gs[i] = y →
        L7_3 (ptrTo jc) lv av v' (.int .i64 ((i : Int) + 1)) K2 kn Q := by
      intro y v' K2 hv2 ha2 hy
      have hyr : 0 ≤ y ∧ y < p := by
        rw [← hy]
        unfold gval
        have hvi := hv i hlt'
        have hk0 := hwf gs[i] (List.getElem_mem _)
        split
        · rename_i h
          rw [List.getD_eq_getElem?_getD]
          cases he : (l.getD (gs[i].frm - 1).toNat [])[inCount gs[i].frm (gs.take i)]? with
          | none => exact ⟨Int.le_refl _, hpp⟩
          | some y' =>
            rw [List.getD_eq_getElem?_getD] at he
            cases he2 : l[(gs[i].frm - 1).toNat]? with
            | none => rw [he2] at he; simp at he
            | some l' =>
              rw [he2] at he
              obtain ⟨hj, rfl⟩ := List.getElem?_eq_some_iff.1 he2
              exact (hin _ hj).2 y' (List.mem_of_getElem? he)
        · split
          · exact ⟨Int.emod_nonneg _ (by omega), Int.emod_lt_of_pos _ hpp⟩
          · split
            · exact ⟨Int.emod_nonneg _ (by omega), Int.emod_lt_of_pos _ hpp⟩
            · split
              · exact ⟨Int.emod_nonneg _ (by omega), Int.emod_lt_of_pos _ hpp⟩
              · split
                · exact ⟨Int.emod_nonneg _ (by omega), Int.emod_lt_of_pos _ hpp⟩
                · exact ⟨hk0, (valid_const hvi (by assumption) (by assumption) (by assumption) (by assumption) (by assumption)).2⟩
      refine eval_loop hc hl hp hv hgl hwf hll hfr hin h1 (d - 1) (i + 1) K2 v' (by omega) (by omega) ha2 ?_ ?_
      · rw [valsTo_succ p l gs hlt', hy, List.map_append]
        exact hv2
      · rw [valsTo_succ p l gs hlt', hy]
        intro z hz
        rcases List.mem_append.1 hz with hz | hz
        · exact hvr z hz
        · rw [List.mem_singleton.1 hz]; exact hyr
    refine oV_eq hga.l4 (oV_eq hga.l0 (oV_eq (vInt_eql _ _ _) ?_))
    refine condK_dec (fun k1 => ?_) (fun k1 => ?_)
    · obtain ⟨f1, f2, _, _, _⟩ := valid_in (hv i hlt') k1
      have f3 := hfr i hlt' k1
      obtain ⟨j, hj⟩ : ∃ j : Nat, gs[i].frm = j + 1 := ⟨(gs[i].frm - 1).toNat, by omega⟩
      have hjl : j < l.length := by omega
      have wj : IntKind.i64.wrap (gs[i].frm - 1) = j := by
        rw [wrap_i64 (by omega) (by omega)]
        omega
      obtain ⟨pa, xa, a1, a2, a3, a4⟩ := hat.ix .i64 hjl
      rw [icells, List.getElem?_map, counts_get _ _ hjl] at a2
      cases a2
      have hcl := inCount_lt gs hlt' (j + 1) k1 hj
      have hlen := (hin j hjl).1
      obtain ⟨pi, ui, i1, i2, i3⟩ := (hl.mono hat.1).slice .i64 (i := (j : Int)) (by omega) (by omega) (ti := ty30) rfl
      have ei : l.getD (j : Int).toNat [] = l[j] := by simp [hjl]
      rw [ei] at i3
      obtain ⟨pw, w1', w2'⟩ := i3.int .i64 (i := (inCount (j + 1) (gs.take i) : Int)) (by omega) (by omega) (ti := ty22) rfl
      rw [Int.toNat_natCast] at w2'
      have hcb := inCount_le (j + 1) gs i
      have wc := wrap_i64 (show -9223372036854775808 ≤ (inCount (j + 1) (gs.take i) : Int) + 1 by omega) (by omega)
      obtain ⟨K2, t1, t2, t3, t4⟩ := a4 ty3 (.int .i64 ((inCount (j + 1) (gs.take i) : Int) + 1)) rfl rfl rfl
      simp only [↓hs_some, ↓hs_fieldto, ↓hs_field, ↓hs_nilto, ↓hs_nilp, ↓hs_gTT, ↓hs_gFF, ↓hs_gTF, ↓hs_gFT, ↓hs_pickT, ↓hs_pickF, ↓hs_not, ↓hs_len, ↓hs_conv, ↓hs_ex0, ↓hs_ex1, ↓hs_add, ↓hs_sub, ↓hs_mul, ↓hs_eql, ↓hs_neq, ↓hs_lss, ↓hs_leq, ↓hs_gtr, ↓hs_geq, ↓oV_of hga.l1, wj, ↓oV_of i1, ↓oV_of i2, ↓oV_of a1, ↓oV_of (a3 ty3 rfl), ↓oV_of w1', ↓oV_of w2', wc, ↓oHeap_of t1]
      refine Grown.append2 (te := ty22) (t3 hvg (by decide)) t2 (by decide) rfl rfl (fun c hc => by rw [List.mem_singleton.1 hc]; rfl) (by show 0 < 1; omega) (by show (i + 1) * 8 ≤ _; omega) (by omega) fun v' K3 hv3 ha3 => ?_
      simp only [↓hs_some, ↓hs_fieldto, ↓hs_field, ↓hs_nilto, ↓hs_nilp, ↓hs_gTT, ↓hs_gFF, ↓hs_gTF, ↓hs_gFT, ↓hs_pickT, ↓hs_pickF, ↓hs_not, ↓hs_len, ↓hs_conv, ↓hs_ex0, ↓hs_ex1, ↓hs_add, ↓hs_sub, ↓hs_mul, ↓hs_eql, ↓hs_neq, ↓hs_lss, ↓hs_leq, ↓hs_gtr, ↓hs_geq, w1]
      refine next _ v' K3 hv3 ?_ ?_
      · rw [counts_take _ _ hlt' k1 hjl hj, icells, List.map_set]
        exact ha3
      · simp only [gval, if_pos k1, hj]
        rw [show ((j : Int) + 1 - 1).toNat = j by omega]
        simp [hjl]
    refine oV_eq (vInt_eql _ _ _) ?_
    refine condK_dec (fun k3 => ?_) (fun k3 => ?_)
    · obtain ⟨ha0, ha1, hb0, hb1⟩ := valid_two (hv i hlt') (by omega)
      obtain ⟨pa, a1, a2⟩ := hvs.int .i64 (i := gs[i].a) ha0 (by omega) (ti := ty22) rfl
      have ra := hr gs[i].a.toNat
      obtain ⟨pb, b1, b2⟩ := hvs.int .i64 (i := gs[i].b) hb0 (by omega) (ti := ty22) rfl
      have rb := hr gs[i].b.toNat
      simp only [↓hs_some, ↓hs_fieldto, ↓hs_field, ↓hs_nilto, ↓hs_nilp, ↓hs_gTT, ↓hs_gFF, ↓hs_gTF, ↓hs_gFT, ↓hs_pickT, ↓hs_pickF, ↓hs_not, ↓hs_len, ↓hs_conv, ↓hs_ex0, ↓hs_ex1, ↓hs_add, ↓hs_sub, ↓hs_mul, ↓hs_eql, ↓hs_neq, ↓hs_lss, ↓hs_leq, ↓hs_gtr, ↓hs_geq, ↓oV_of hcK.lp, ↓oV_of hga.l2, ↓oV_of hga.l3, ↓oV_of hga.l4, ↓oV_of a1, ↓oV_of a2, ↓oV_of b1, ↓oV_of b2]
      refine oRC_val (radd_spec _ hpp ra.1 rb.1 (by omega)) ?_
      refine Grown.append2 (te := ty22) hvg hat (by decide) rfl rfl (fun c hc => by rw [List.mem_singleton.1 hc]; rfl) (by show 0 < 1; omega) (by show (i + 1) * 8 ≤ _; omega) (by omega) fun v' K2 hv2 ha2 => ?_
      simp only [↓hs_some, ↓hs_fieldto, ↓hs_field, ↓hs_nilto, ↓hs_nilp, ↓hs_gTT, ↓hs_gFF, ↓hs_gTF, ↓hs_gFT, ↓hs_pickT, ↓hs_pickF, ↓hs_not, ↓hs_len, ↓hs_conv, ↓hs_ex0, ↓hs_ex1, ↓hs_add, ↓hs_sub, ↓hs_mul, ↓hs_eql, ↓hs_neq, ↓hs_lss, ↓hs_leq, ↓hs_gtr, ↓hs_geq, w1]
      refine next (((valsTo p l gs i).getD gs[i].a.toNat 0 + (valsTo p l gs i).getD gs[i].b.toNat 0) % p) v' K2 hv2 (by rw [counts_skip _ _ hlt' (by omega)]; exact ha2) ?_
      simp [gval, k3, show ¬ gs[i].kind = 1 by omega]
    refine oV_eq (vInt_eql _ _ _) ?_
    refine condK_dec (fun k4 => ?_) (fun k4 => ?_)
    · obtain ⟨ha0, ha1, hb0, hb1⟩ := valid_two (hv i hlt') (by omega)
      obtain ⟨pa, a1, a2⟩ := hvs.int .i64 (i := gs[i].a) ha0 (by omega) (ti := ty22) rfl
      have ra := hr gs[i].a.toNat
      obtain ⟨pb, b1, b2⟩ := hvs.int .i64 (i := gs[i].b) hb0 (by omega) (ti := ty22) rfl
      have rb := hr gs[i].b.toNat
      simp only [↓hs_some, ↓hs_fieldto, ↓hs_field, ↓hs_nilto, ↓hs_nilp, ↓hs_gTT, ↓hs_gFF, ↓hs_gTF, ↓hs_gFT, ↓hs_pickT, ↓hs_pickF, ↓hs_not, ↓hs_len, ↓hs_conv, ↓hs_ex0, ↓hs_ex1, ↓hs_add, ↓hs_sub, ↓hs_mul, ↓hs_eql, ↓hs_neq, ↓hs_lss, ↓hs_leq, ↓hs_gtr, ↓hs_geq, ↓oV_of hcK.lp, ↓oV_of hga.l2, ↓oV_of hga.l3, ↓oV_of hga.l4, ↓oV_of a1, ↓oV_of a2, ↓oV_of b1, ↓oV_of b2]
      refine oRC_val (rsub_spec _ hpp ra.1 rb.1 (by omega) (by omega)) ?_
      refine Grown.append2 (te := ty22) hvg hat (by decide) rfl rfl (fun c hc => by rw [List.mem_singleton.1 hc]; rfl) (by show 0 < 1; omega) (by show (i + 1) * 8 ≤ _; omega) (by omega) fun v' K2 hv2 ha2 => ?_
      simp only [↓hs_some, ↓hs_fieldto, ↓hs_field, ↓hs_nilto, ↓hs_nilp, ↓hs_gTT, ↓hs_gFF, ↓hs_gTF, ↓hs_gFT, ↓hs_pickT, ↓hs_pickF, ↓hs_not, ↓hs_len, ↓hs_conv, ↓hs_ex0, ↓hs_ex1, ↓hs_add, ↓hs_sub, ↓hs_mul, ↓hs_eql, ↓hs_neq, ↓hs_lss, ↓hs_leq, ↓hs_gtr, ↓hs_geq, w1]
      refine next (((valsTo p l gs i).getD gs[i].a.toNat 0 - (valsTo p l gs i).getD gs[i].b.toNat 0) % p) v' K2 hv2 (by rw [counts_skip _ _ hlt' (by omega)]; exact ha2) ?_
      simp [gval, k4, show ¬ gs[i].kind = 1 by omega, show ¬ gs[i].kind = 3 by omega]
    refine oV_eq (vInt_eql _ _ _) ?_
    refine condK_dec (fun k5 => ?_) (fun k5 => ?_)
    · obtain ⟨ha0, ha1, hk0⟩ := valid_scale (hv i hlt') (by assumption)
      obtain ⟨pa, a1, a2⟩ := hvs.int .i64 (i := gs[i].a) ha0 (by omega) (ti := ty22) rfl
      have ra := hr gs[i].a.toNat
      have rk := hwf gs[i] (List.getElem_mem _)
      simp only [↓hs_some, ↓hs_fieldto, ↓hs_field, ↓hs_nilto, ↓hs_nilp, ↓hs_gTT, ↓hs_gFF, ↓hs_gTF, ↓hs_gFT, ↓hs_pickT, ↓hs_pickF, ↓hs_not, ↓hs_len, ↓hs_conv, ↓hs_ex0, ↓hs_ex1, ↓hs_add, ↓hs_sub, ↓hs_mul, ↓hs_eql, ↓hs_neq, ↓hs_lss, ↓hs_leq, ↓hs_gtr, ↓hs_geq, ↓oV_of hcK.lp, ↓oV_of hga.l2, ↓oV_of hga.l3, ↓oV_of hga.l4, ↓oV_of a1, ↓oV_of a2]
      refine oRC_val (rmul_spec _ hp rk hk0 ra.1 ra.2) ?_
      refine Grown.append2 (te := ty22) hvg hat (by decide) rfl rfl (fun c hc => by rw [List.mem_singleton.1 hc]; rfl) (by show 0 < 1; omega) (by show (i + 1) * 8 ≤ _; omega) (by omega) fun v' K2 hv2 ha2 => ?_
      simp only [↓hs_some, ↓hs_fieldto, ↓hs_field, ↓hs_nilto, ↓hs_nilp, ↓hs_gTT, ↓hs_gFF, ↓hs_gTF, ↓hs_gFT, ↓hs_pickT, ↓hs_pickF, ↓hs_not, ↓hs_len, ↓hs_conv, ↓hs_ex0, ↓hs_ex1, ↓hs_add, ↓hs_sub, ↓hs_mul, ↓hs_eql, ↓hs_neq, ↓hs_lss, ↓hs_leq, ↓hs_gtr, ↓hs_geq, w1]
      refine next (gs[i].k * (valsTo p l gs i).getD gs[i].a.toNat 0 % p) v' K2 hv2 (by rw [counts_skip _ _ hlt' (by omega)]; exact ha2) ?_
      simp [gval, k5, show ¬ gs[i].kind = 1 by omega, show ¬ gs[i].kind = 3 by omega, show ¬ gs[i].kind = 4 by omega]
    refine oV_eq (vInt_eql _ _ _) ?_
    refine condK_dec (fun k6 => ?_) (fun k6 => ?_)
    · obtain ⟨ha0, ha1, hb0, hb1⟩ := valid_two (hv i hlt') (by omega)
      obtain ⟨pa, a1, a2⟩ := hvs.int .i64 (i := gs[i].a) ha0 (by omega) (ti := ty22) rfl
      have ra := hr gs[i].a.toNat
      obtain ⟨pb, b1, b2⟩ := hvs.int .i64 (i := gs[i].b) hb0 (by omega) (ti := ty22) rfl
      have rb := hr gs[i].b.toNat
      simp only [↓hs_some, ↓hs_fieldto, ↓hs_field, ↓hs_nilto, ↓hs_nilp, ↓hs_gTT, ↓hs_gFF, ↓hs_gTF, ↓hs_gFT, ↓hs_pickT, ↓hs_pickF, ↓hs_not, ↓hs_len, ↓hs_conv, ↓hs_ex0, ↓hs_ex1, ↓hs_add, ↓hs_sub, ↓hs_mul, ↓hs_eql, ↓hs_neq, ↓hs_lss, ↓hs_leq, ↓hs_gtr, ↓hs_geq, ↓oV_of hcK.lp, ↓oV_of hga.l2, ↓oV_of hga.l3, ↓oV_of hga.l4, ↓oV_of a1, ↓oV_of a2, ↓oV_of b1, ↓oV_of b2]
      refine oRC_val (rmul_spec _ hp ra.1 ra.2 rb.1 rb.2) ?_
      refine Grown.append2 (te := ty22) hvg hat (by decide) rfl rfl (fun c hc => by rw [List.mem_singleton.1 hc]; rfl) (by show 0 < 1; omega) (by show (i + 1) * 8 ≤ _; omega) (by omega) fun v' K2 hv2 ha2 => ?_
      simp only [↓hs_some, ↓hs_fieldto, ↓hs_field, ↓hs_nilto, ↓hs_nilp, ↓hs_gTT, ↓hs_gFF, ↓hs_gTF, ↓hs_gFT, ↓hs_pickT, ↓hs_pickF, ↓hs_not, ↓hs_len, ↓hs_conv, ↓hs_ex0, ↓hs_ex1, ↓hs_add, ↓hs_sub, ↓hs_mul, ↓hs_eql, ↓hs_neq, ↓hs_lss, ↓hs_leq, ↓hs_gtr, ↓hs_geq, w1]
      refine next ((valsTo p l gs i).getD gs[i].a.toNat 0 * (valsTo p l gs i).getD gs[i].b.toNat 0 % p) v' K2 hv2 (by rw [counts_skip _ _ hlt' (by omega)]; exact ha2) ?_
      simp [gval, k6, show ¬ gs[i].kind = 1 by omega, show ¬ gs[i].kind = 3 by omega, show ¬ gs[i].kind = 4 by omega, show ¬ gs[i].kind = 5 by omega]
    · refine Grown.append2 (te := ty22) hvg hat (by decide) rfl rfl (fun c hc => by rw [List.mem_singleton.1 hc]; rfl) (by show 0 < 1; omega) (by show (i + 1) * 8 ≤ _; omega) (by omega) fun v' K2 hv2 ha2 => ?_
      simp only [↓hs_some, ↓hs_fieldto, ↓hs_field, ↓hs_nilto, ↓hs_nilp, ↓hs_gTT, ↓hs_gFF, ↓hs_gTF, ↓hs_gFT, ↓hs_pickT, ↓hs_pickF, ↓hs_not, ↓hs_len, ↓hs_conv, ↓hs_ex0, ↓hs_ex1, ↓hs_add, ↓hs_sub, ↓hs_mul, ↓hs_eql, ↓hs_neq, ↓hs_lss, ↓hs_leq, ↓hs_gtr, ↓hs_geq, w1]
      refine next gs[i].k v' K2 hv2 (by rw [counts_skip _ _ hlt' k1]; exact ha2) ?_
      simp [gval, k1, k3, k4, k5, k6]
  termination_by d => d
end
end Go.Proofs.YtpbaoefjkfdgmaaDoor.SL
