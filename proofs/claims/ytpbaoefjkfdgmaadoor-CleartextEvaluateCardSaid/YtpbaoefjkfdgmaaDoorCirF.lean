/- Which circuits are valid; how many inputs a party has. -/
import Derived.Test.YtpbaoefjkfdgmaaDoorCirE
set_option linter.unusedVariables false
set_option linter.unusedSimpArgs false
namespace Go.Proofs.YtpbaoefjkfdgmaaDoor.SL
open Go

/-- At block j lies a circuit. -/
structure CircAt (H : Heap) (j : Nat) (p : Int) (gv ov : Value) (gs : List Gate) (os : List Int) : Prop where
  blk : H j = some (.cells [.int .u64 p, gv, ov] 3 26 true)
  gates : Sl eGate H gv gs
  outs : Sl (eInt .i64) H ov os
section
variable {H : Heap} {j : Nat} {p : Int} {gv ov : Value} {gs : List Gate} {os : List Int}
theorem CircAt.mono {H' : Heap} (h : CircAt H j p gv ov gs os) (hl : Le H H') : CircAt H' j p gv ov gs os := ⟨hl _ _ h.blk, h.gates.mono hl, h.outs.mono hl⟩
theorem CircAt.lp (h : CircAt H j p gv ov gs os) : vLoad ty22 (.pointer (some ⟨j, 0, none⟩)) H = some (.int .u64 p) := by simp only [vLoad, h.blk]; rfl
theorem CircAt.lg (h : CircAt H j p gv ov gs os) : vLoad ty23 (.pointer (some ⟨j, 1, none⟩)) H = some gv := by simp only [vLoad, h.blk]; rfl
theorem CircAt.lo (h : CircAt H j p gv ov gs os) : vLoad ty24 (.pointer (some ⟨j, 2, none⟩)) H = some ov := by simp only [vLoad, h.blk]; rfl
theorem CircAt.lc (h : CircAt H j p gv ov gs os) : vLoad ty26 (ptrTo j) H = some (.agg #[.int .u64 p, gv, ov]) := by simp only [vLoad, ptrTo, h.blk]; rfl
theorem CircAt.circ (h : CircAt H j p gv ov gs os) : Circ H (.agg #[.int .u64 p, gv, ov]) p gs os := ⟨gv, ov, rfl, h.gates, h.outs⟩
theorem circ_new {c : Value} {k : Nat → Heap → Prop} (h : Circ H c p gs os) (hk : ∀ i H' gv ov, Le H H' → CircAt H' i p gv ov gs os → k i H') : oNew c.cells.toList c.cells.toList.length 26 H k := by
  obtain ⟨gv, ov, rfl, h1, h2⟩ := h
  show oNew [.int .u64 p, gv, ov] 3 26 H k
  intro i hi
  exact hk i _ gv ov (Le.ins _ hi) ⟨hins_self _ _ _, h1.mono (Le.ins _ hi), h2.mono (Le.ins _ hi)⟩
theorem Sl.gate {v : Value} (h : Sl eGate H v gs) {i : Nat} (hi : i < gs.length) : ∃ q off, vIdxS 5 v (.int .i64 i) = some (.pointer (some ⟨q, off, none⟩)) ∧ vLoad ty37 (.pointer (some ⟨q, off, none⟩)) H = some gs[i].val ∧
    vLoad ty3 (.pointer (some ⟨q, off + 0, none⟩)) H = some (.int .i64 gs[i].kind) ∧ vLoad ty3 (.pointer (some ⟨q, off + 1, none⟩)) H = some (.int .i64 gs[i].frm) := by
  obtain ⟨x, cs, g, hp, hx, hr, ha⟩ := h.at_ .i64 (i := (i : Int)) (by omega) (by omega)
  rw [Int.toNat_natCast, List.getElem?_eq_getElem hi] at hx
  cases hx
  have hr : cs = gs[i].cells := hr
  subst hr
  obtain ⟨q, off, bs, n, e, wr, rfl, hj, hl, ht⟩ := ha
  have hat : At H (.pointer (some ⟨q, off, none⟩)) gs[i].cells := ⟨q, off, bs, n, e, wr, rfl, hj, hl, ht⟩
  refine ⟨q, off, hp, ?_, ?_, ?_⟩
  · exact hat.loadA (ti := ty37) rfl rfl
  · obtain ⟨q', hq, h'⟩ := hat.field 0 1 (by show 1 ≤ 5; omega)
    cases hq
    exact h'.load (v := .int .i64 gs[i].kind) rfl
  · obtain ⟨q', hq, h'⟩ := hat.field 1 1 (by show 2 ≤ 5; omega)
    cases hq
    exact h'.load (v := .int .i64 gs[i].frm) rfl
end
def validGates (p : Int) (gs : List Gate) : Prop := ∀ (i : Nat) (h : i < gs.length), validGate p i gs[i]
def validC (p : Int) (gs : List Gate) (os : List Int) : Prop := Supp p ∧ gs.length ≤ 20000 ∧ os.length ≤ 1000 ∧ validGates p gs ∧ ∀ o ∈ os, 0 ≤ o ∧ o < gs.length
section
variable {H : Heap} {jc : Nat} {p : Int} {gv ov : Value} {gs : List Gate} {os : List Int}
theorem valid_gates {kn : Value → Heap → Prop} {Q : Ending → Heap → Prop} (h1 : ∀ H', Le H H' → validGates p gs → kn (ptrTo jc) H') (h2 : ∀ H', Le H H' → ¬ validGates p gs → Q (.returned (.bool false)) H') :
    ∀ (d i : Nat) (H' : Heap), Le H H' → CircAt H' jc p gv ov gs os → gs.length - i = d → i ≤ gs.length → (∀ (j : Nat) (h : j < gs.length), j < i → validGate p j gs[j]) → L13_7 (ptrTo jc) (.int .i64 i) H' kn Q
  | d, i, H', hle, hc, hd, hi, hv => by
    apply L13_7_round
    unfold m13_8
    have hm := hc.gates.max
    simp only [↓hs_some, ↓hs_fieldto, ↓hs_field, ↓hs_nilto, ↓hs_nilp, ↓hs_gTT, ↓hs_gFF, ↓hs_gTF, ↓hs_gFT, ↓hs_pickT, ↓hs_pickF, ↓hs_not, ↓hs_len, ↓hs_conv, ↓hs_ex0, ↓hs_ex1, ↓hs_add, ↓hs_sub, ↓hs_mul, ↓hs_eql, ↓hs_neq, ↓hs_lss, ↓hs_leq, ↓hs_gtr, ↓hs_geq, ↓oV_of hc.lg, ↓oV_of hc.gates.len]
    refine condK_dec (fun hlt => ?_) (fun hlt => h1 _ hle (fun j h => hv j h (by omega)))
    have hlt' : i < gs.length := by omega
    obtain ⟨q, off, g1, g2, _, _⟩ := hc.gates.gate hlt'
    simp only [↓hs_some, ↓hs_fieldto, ↓hs_field, ↓hs_nilto, ↓hs_nilp, ↓hs_gTT, ↓hs_gFF, ↓hs_gTF, ↓hs_gFT, ↓hs_pickT, ↓hs_pickF, ↓hs_not, ↓hs_len, ↓hs_conv, ↓hs_ex0, ↓hs_ex1, ↓hs_add, ↓hs_sub, ↓hs_mul, ↓hs_eql, ↓hs_neq, ↓hs_lss, ↓hs_leq, ↓hs_gtr, ↓hs_geq, ↓oV_of hc.lg, ↓oV_of hc.lp, ↓oV_of g1, ↓oV_of g2]
    refine oRC_grow (gate_valid H' p i gs[i]) fun H'' hl2 => ?_
    simp only [↓hs_some, ↓hs_fieldto, ↓hs_field, ↓hs_nilto, ↓hs_nilp, ↓hs_gTT, ↓hs_gFF, ↓hs_gTF, ↓hs_gFT, ↓hs_pickT, ↓hs_pickF, ↓hs_not, ↓hs_len, ↓hs_conv, ↓hs_ex0, ↓hs_ex1, ↓hs_add, ↓hs_sub, ↓hs_mul, ↓hs_eql, ↓hs_neq, ↓hs_lss, ↓hs_leq, ↓hs_gtr, ↓hs_geq]
    by_cases hg : validGate p i gs[i]
    · rw [decide_eq_true hg]
      refine condK_false ?_
      simp only [↓hs_some, ↓hs_fieldto, ↓hs_field, ↓hs_nilto, ↓hs_nilp, ↓hs_gTT, ↓hs_gFF, ↓hs_gTF, ↓hs_gFT, ↓hs_pickT, ↓hs_pickF, ↓hs_not, ↓hs_len, ↓hs_conv, ↓hs_ex0, ↓hs_ex1, ↓hs_add, ↓hs_sub, ↓hs_mul, ↓hs_eql, ↓hs_neq, ↓hs_lss, ↓hs_leq, ↓hs_gtr, ↓hs_geq, wrap_i64 (show -9223372036854775808 ≤ (i : Int) + 1 by omega) (by omega)]
      exact valid_gates h1 h2 (d - 1) (i + 1) H'' (hle.trans hl2) (hc.mono hl2) (by omega) (by omega) (fun j h hj => by
        by_cases e : j = i
        · subst e; exact hg
        · exact hv j h (by omega))
    · rw [decide_eq_false hg]
      exact condK_true (h2 _ (hle.trans hl2) (fun h => hg (h i hlt')))
  termination_by d => d
theorem valid_outs {kn : Heap → Prop} {Q : Ending → Heap → Prop} (hc : CircAt H jc p gv ov gs os) (h1 : (∀ o ∈ os, 0 ≤ o ∧ o < gs.length) → kn H) (h2 : ¬ (∀ o ∈ os, 0 ≤ o ∧ o < gs.length) → Q (.returned (.bool false)) H) :
    ∀ (d i : Nat), os.length - i = d → i ≤ os.length → (∀ (j : Nat) (h : j < os.length), j < i → 0 ≤ os[j] ∧ os[j] < gs.length) → L13_4 (ptrTo jc) (.int .i64 i) H kn Q
  | d, i, hd, hi, hv => by
    apply L13_4_round
    unfold m13_5
    have hm := hc.outs.max
    simp only [↓hs_some, ↓hs_fieldto, ↓hs_field, ↓hs_nilto, ↓hs_nilp, ↓hs_gTT, ↓hs_gFF, ↓hs_gTF, ↓hs_gFT, ↓hs_pickT, ↓hs_pickF, ↓hs_not, ↓hs_len, ↓hs_conv, ↓hs_ex0, ↓hs_ex1, ↓hs_add, ↓hs_sub, ↓hs_mul, ↓hs_eql, ↓hs_neq, ↓hs_lss, ↓hs_leq, ↓hs_gtr, ↓hs_geq, ↓oV_of hc.lo, ↓oV_of hc.outs.len]
    refine condK_dec (fun hlt => ?_) (fun hlt => h1 (fun o ho => ?_))
    · have hlt' : i < os.length := by omega
      obtain ⟨q, g1, g2⟩ := hc.outs.int .i64 (i := (i : Int)) (by omega) (by omega) (ti := ty3) rfl
      have e : os.getD (i : Int).toNat 0 = os[i] := by simp [hlt']
      rw [e] at g2
      simp only [↓hs_some, ↓hs_fieldto, ↓hs_field, ↓hs_nilto, ↓hs_nilp, ↓hs_gTT, ↓hs_gFF, ↓hs_gTF, ↓hs_gFT, ↓hs_pickT, ↓hs_pickF, ↓hs_not, ↓hs_len, ↓hs_conv, ↓hs_ex0, ↓hs_ex1, ↓hs_add, ↓hs_sub, ↓hs_mul, ↓hs_eql, ↓hs_neq, ↓hs_lss, ↓hs_leq, ↓hs_gtr, ↓hs_geq, ↓oV_of hc.lo, ↓oV_of g1, ↓oV_of g2]
      by_cases c1 : os[i] < 0
      · rw [decide_eq_true c1]
        exact condK_true (h2 (fun h => absurd (h os[i] (List.getElem_mem _)).1 (by omega)))
      · rw [decide_eq_false c1]
        simp only [↓hs_some, ↓hs_fieldto, ↓hs_field, ↓hs_nilto, ↓hs_nilp, ↓hs_gTT, ↓hs_gFF, ↓hs_gTF, ↓hs_gFT, ↓hs_pickT, ↓hs_pickF, ↓hs_not, ↓hs_len, ↓hs_conv, ↓hs_ex0, ↓hs_ex1, ↓hs_add, ↓hs_sub, ↓hs_mul, ↓hs_eql, ↓hs_neq, ↓hs_lss, ↓hs_leq, ↓hs_gtr, ↓hs_geq, ↓oV_of hc.lo, ↓oV_of hc.lg, ↓oV_of g1, ↓oV_of g2, ↓oV_of hc.gates.len]
        refine condK_dec (fun c2 => h2 (fun h => absurd (h os[i] (List.getElem_mem _)).2 (by omega))) (fun c2 => ?_)
        simp only [↓hs_some, ↓hs_fieldto, ↓hs_field, ↓hs_nilto, ↓hs_nilp, ↓hs_gTT, ↓hs_gFF, ↓hs_gTF, ↓hs_gFT, ↓hs_pickT, ↓hs_pickF, ↓hs_not, ↓hs_len, ↓hs_conv, ↓hs_ex0, ↓hs_ex1, ↓hs_add, ↓hs_sub, ↓hs_mul, ↓hs_eql, ↓hs_neq, ↓hs_lss, ↓hs_leq, ↓hs_gtr, ↓hs_geq, wrap_i64 (show -9223372036854775808 ≤ (i : Int) + 1 by omega) (by omega)]
        exact valid_outs hc h1 h2 (d - 1) (i + 1) (by omega) (by omega) (fun j h hj => by
          by_cases e : j = i
          · subst e; omega
          · exact hv j h (by omega))
    · obtain ⟨j, hj, rfl⟩ := List.mem_iff_getElem.1 ho
      exact hv j hj (by omega)
  termination_by d => d
theorem valid_spec {c : Value} (h : Circ H c p gs os) : RCalls Tryd.prog 13 [c] H (Ret fun v H' => ∃ b : Bool, v = .bool b ∧ (b = true ↔ validC p gs os) ∧ Le H H') := by
  apply call13
  unfold m13
  refine circ_new h fun i H1 gv ov hl hc => ?_
  have hm1 := hc.gates.max
  have hm2 := hc.outs.max
  simp only [↓hs_some, ↓hs_fieldto, ↓hs_field, ↓hs_nilto, ↓hs_nilp, ↓hs_gTT, ↓hs_gFF, ↓hs_gTF, ↓hs_gFT, ↓hs_pickT, ↓hs_pickF, ↓hs_not, ↓hs_len, ↓hs_conv, ↓hs_ex0, ↓hs_ex1, ↓hs_add, ↓hs_sub, ↓hs_mul, ↓hs_eql, ↓hs_neq, ↓hs_lss, ↓hs_leq, ↓hs_gtr, ↓hs_geq, ↓oV_of hc.lp]
  refine oRC_grow (supported_spec H1 p) fun H2 hl2 => ?_
  have hc2 := hc.mono hl2
  simp only [↓hs_some, ↓hs_fieldto, ↓hs_field, ↓hs_nilto, ↓hs_nilp, ↓hs_gTT, ↓hs_gFF, ↓hs_gTF, ↓hs_gFT, ↓hs_pickT, ↓hs_pickF, ↓hs_not, ↓hs_len, ↓hs_conv, ↓hs_ex0, ↓hs_ex1, ↓hs_add, ↓hs_sub, ↓hs_mul, ↓hs_eql, ↓hs_neq, ↓hs_lss, ↓hs_leq, ↓hs_gtr, ↓hs_geq]
  have no : ∀ {H' : Heap}, Le H H' → ¬ validC p gs os → (Ret fun v H' => ∃ b : Bool, v = .bool b ∧ (b = true ↔ validC p gs os) ∧ Le H H') (.returned (.bool false)) H' := fun hl hn => ⟨false, rfl, iff_of_false (by simp) hn, hl⟩
  by_cases hp : Supp p
  case neg =>
    rw [decide_eq_false hp]
    exact condK_true (no (hl.trans hl2) (fun h => hp h.1))
  rw [decide_eq_true hp]
  simp only [Bool.not_true, ↓hs_some, ↓hs_fieldto, ↓hs_field, ↓hs_nilto, ↓hs_nilp, ↓hs_gTT, ↓hs_gFF, ↓hs_gTF, ↓hs_gFT, ↓hs_pickT, ↓hs_pickF, ↓hs_not, ↓hs_len, ↓hs_conv, ↓hs_ex0, ↓hs_ex1, ↓hs_add, ↓hs_sub, ↓hs_mul, ↓hs_eql, ↓hs_neq, ↓hs_lss, ↓hs_leq, ↓hs_gtr, ↓hs_geq, ↓oV_of hc2.lg, ↓oV_of hc2.gates.len]
  by_cases hg : (20000 : Int) < gs.length
  case pos =>
    rw [decide_eq_true hg]
    exact condK_true (no (hl.trans hl2) (fun h => absurd h.2.1 (by omega)))
  rw [decide_eq_false hg]
  simp only [↓hs_some, ↓hs_fieldto, ↓hs_field, ↓hs_nilto, ↓hs_nilp, ↓hs_gTT, ↓hs_gFF, ↓hs_gTF, ↓hs_gFT, ↓hs_pickT, ↓hs_pickF, ↓hs_not, ↓hs_len, ↓hs_conv, ↓hs_ex0, ↓hs_ex1, ↓hs_add, ↓hs_sub, ↓hs_mul, ↓hs_eql, ↓hs_neq, ↓hs_lss, ↓hs_leq, ↓hs_gtr, ↓hs_geq, ↓oV_of hc2.lo, ↓oV_of hc2.outs.len]
  refine condK_dec (fun ho => no (hl.trans hl2) (fun h => absurd h.2.2.1 (by omega))) (fun ho => ?_)
  unfold m13_6
  refine valid_gates (fun H3 hl3 hv => ?_) (fun H3 hl3 hv => no ((hl.trans hl2).trans hl3) (fun h => hv h.2.2.2.1)) _ 0 H2 (Le.refl _) hc2 rfl (by omega) (by omega)
  unfold m13_1 m13_3
  refine valid_outs (hc2.mono hl3) (fun hv2 => ?_) (fun hv2 => no ((hl.trans hl2).trans hl3) (fun h => hv2 h.2.2.2.2)) _ 0 rfl (by omega) (by omega)
  exact ⟨true, rfl, iff_of_true rfl ⟨hp, by omega, by omega, hv, hv2⟩, (hl.trans hl2).trans hl3⟩
end
/-! ### Inputs -/
def inOf (f : Int) (g : Gate) : Bool := decide (g.kind = 1) && decide (g.frm = f)
/-- How many inputs the party f has. -/
def inCount (f : Int) (gs : List Gate) : Nat := gs.countP (inOf f)
theorem inCount_take (f : Int) (gs : List Gate) (i : Nat) (h : i < gs.length) : inCount f (gs.take (i + 1)) = inCount f (gs.take i) + if gs[i].kind = 1 ∧ gs[i].frm = f then 1 else 0 := by
  unfold inCount
  rw [List.take_succ_eq_append_getElem h, List.countP_append, List.countP_singleton]
  congr 1
  simp [inOf]
theorem inCount_le (f : Int) (gs : List Gate) (i : Nat) : inCount f (gs.take i) ≤ i := by
  have h1 := List.countP_le_length (p := inOf f) (l := gs.take i)
  have h2 : (gs.take i).length ≤ i := by rw [List.length_take]; omega
  exact Nat.le_trans h1 h2
section
variable {H : Heap} {jc : Nat} {p : Int} {gv ov : Value} {gs : List Gate} {os : List Int}
theorem count_loop {f : Int} (hc : CircAt H jc p gv ov gs os) {kn : Value → Heap → Prop} {Q : Ending → Heap → Prop} (h1 : kn (.int .i64 (inCount f gs)) H) :
    ∀ (d i : Nat), gs.length - i = d → i ≤ gs.length → L25_3 (.int .i64 f) (ptrTo jc) (.int .i64 (inCount f (gs.take i))) (.int .i64 i) H kn Q
  | d, i, hd, hi => by
    apply L25_3_round
    unfold m25_4
    have hm := hc.gates.max
    simp only [↓hs_some, ↓hs_fieldto, ↓hs_field, ↓hs_nilto, ↓hs_nilp, ↓hs_gTT, ↓hs_gFF, ↓hs_gTF, ↓hs_gFT, ↓hs_pickT, ↓hs_pickF, ↓hs_not, ↓hs_len, ↓hs_conv, ↓hs_ex0, ↓hs_ex1, ↓hs_add, ↓hs_sub, ↓hs_mul, ↓hs_eql, ↓hs_neq, ↓hs_lss, ↓hs_leq, ↓hs_gtr, ↓hs_geq, ↓oV_of hc.lg, ↓oV_of hc.gates.len]
    refine condK_dec (fun hlt => ?_) (fun hlt => ?_)
    · have hlt' : i < gs.length := by omega
      obtain ⟨q, off, g1, g2, g3, g4⟩ := hc.gates.gate hlt'
      have hs := inCount_take f gs i hlt'
      have hb := inCount_le f gs i
      simp only [↓hs_some, ↓hs_fieldto, ↓hs_field, ↓hs_nilto, ↓hs_nilp, ↓hs_gTT, ↓hs_gFF, ↓hs_gTF, ↓hs_gFT, ↓hs_pickT, ↓hs_pickF, ↓hs_not, ↓hs_len, ↓hs_conv, ↓hs_ex0, ↓hs_ex1, ↓hs_add, ↓hs_sub, ↓hs_mul, ↓hs_eql, ↓hs_neq, ↓hs_lss, ↓hs_leq, ↓hs_gtr, ↓hs_geq, ↓oV_of hc.lg, ↓oV_of g1, ↓oV_of g3]
      have w1 := wrap_i64 (show -9223372036854775808 ≤ (i : Int) + 1 by omega) (by omega)
      have w2 := wrap_i64 (show -9223372036854775808 ≤ (inCount f (gs.take i) : Int) + 1 by omega) (by omega)
      by_cases c1 : gs[i].kind = 1
      · rw [decide_eq_true c1]
        simp only [↓hs_some, ↓hs_fieldto, ↓hs_field, ↓hs_nilto, ↓hs_nilp, ↓hs_gTT, ↓hs_gFF, ↓hs_gTF, ↓hs_gFT, ↓hs_pickT, ↓hs_pickF, ↓hs_not, ↓hs_len, ↓hs_conv, ↓hs_ex0, ↓hs_ex1, ↓hs_add, ↓hs_sub, ↓hs_mul, ↓hs_eql, ↓hs_neq, ↓hs_lss, ↓hs_leq, ↓hs_gtr, ↓hs_geq, ↓oV_of hc.lg, ↓oV_of g1, ↓oV_of g4]
        refine condK_dec (fun c2 => ?_) (fun c2 => ?_)
        · simp only [↓hs_some, ↓hs_fieldto, ↓hs_field, ↓hs_nilto, ↓hs_nilp, ↓hs_gTT, ↓hs_gFF, ↓hs_gTF, ↓hs_gFT, ↓hs_pickT, ↓hs_pickF, ↓hs_not, ↓hs_len, ↓hs_conv, ↓hs_ex0, ↓hs_ex1, ↓hs_add, ↓hs_sub, ↓hs_mul, ↓hs_eql, ↓hs_neq, ↓hs_lss, ↓hs_leq, ↓hs_gtr, ↓hs_geq, w1, w2]
          have := count_loop hc (f := f) (kn := kn) (Q := Q) h1 (d - 1) (i + 1) (by omega) (by omega)
          rw [hs, if_pos ⟨c1, c2⟩] at this
          exact this
        · simp only [↓hs_some, ↓hs_fieldto, ↓hs_field, ↓hs_nilto, ↓hs_nilp, ↓hs_gTT, ↓hs_gFF, ↓hs_gTF, ↓hs_gFT, ↓hs_pickT, ↓hs_pickF, ↓hs_not, ↓hs_len, ↓hs_conv, ↓hs_ex0, ↓hs_ex1, ↓hs_add, ↓hs_sub, ↓hs_mul, ↓hs_eql, ↓hs_neq, ↓hs_lss, ↓hs_leq, ↓hs_gtr, ↓hs_geq, w1]
          have := count_loop hc (f := f) (kn := kn) (Q := Q) h1 (d - 1) (i + 1) (by omega) (by omega)
          rw [hs, if_neg (fun h => c2 h.2)] at this
          exact this
      · rw [decide_eq_false c1]
        simp only [↓hs_some, ↓hs_fieldto, ↓hs_field, ↓hs_nilto, ↓hs_nilp, ↓hs_gTT, ↓hs_gFF, ↓hs_gTF, ↓hs_gFT, ↓hs_pickT, ↓hs_pickF, ↓hs_not, ↓hs_len, ↓hs_conv, ↓hs_ex0, ↓hs_ex1, ↓hs_add, ↓hs_sub, ↓hs_mul, ↓hs_eql, ↓hs_neq, ↓hs_lss, ↓hs_leq, ↓hs_gtr, ↓hs_geq]
        refine condK_false ?_
        simp only [↓hs_some, ↓hs_fieldto, ↓hs_field, ↓hs_nilto, ↓hs_nilp, ↓hs_gTT, ↓hs_gFF, ↓hs_gTF, ↓hs_gFT, ↓hs_pickT, ↓hs_pickF, ↓hs_not, ↓hs_len, ↓hs_conv, ↓hs_ex0, ↓hs_ex1, ↓hs_add, ↓hs_sub, ↓hs_mul, ↓hs_eql, ↓hs_neq, ↓hs_lss, ↓hs_leq, ↓hs_gtr, ↓hs_geq, w1]
        have := count_loop hc (f := f) (kn := kn) (Q := Q) h1 (d - 1) (i + 1) (by omega) (by omega)
        rw [hs, if_neg (fun h => c1 h.1)] at this
        exact this
    · have : i = gs.length := by omega
      subst this
      rw [List.take_length]
      exact h1
  termination_by d => d
theorem count_spec {c : Value} (f : Int) (h : Circ H c p gs os) : RCalls Tryd.prog 25 [c, .int .i64 f] H (Grow (.int .i64 (inCount f gs)) H) := by
  apply call25
  unfold m25
  refine circ_new h fun i H1 gv ov hl hc => ?_
  unfold m25_2
  exact count_loop hc (f := f) ⟨rfl, hl⟩ _ 0 rfl (by omega)
end
end Go.Proofs.YtpbaoefjkfdgmaaDoor.SL
