/- The reference's effective inputs: the walk. -/
import Derived.Test.YtpbaoefjkfdgmaaDoorCirH
set_option linter.unusedVariables false
set_option linter.unusedSimpArgs false
namespace Go.Proofs.YtpbaoefjkfdgmaaDoor.SL
open Go

theorem inCount_lt (gs : List Gate) {i : Nat} (h : i < gs.length) (f : Int) (hk : gs[i].kind = 1) (hf : gs[i].frm = f) : inCount f (gs.take i) < inCount f gs := by
  have h1 := inCount_take f gs i h
  rw [if_pos ⟨hk, hf⟩] at h1
  have h2 : inCount f (gs.take (i + 1)) ≤ inCount f gs := List.Sublist.countP_le (List.take_sublist _ _)
  omega
theorem valid_in {p i : Int} {g : Gate} (h : validGate p i g) (hk : g.kind = 1) : 1 ≤ g.frm ∧ g.frm ≤ 13 ∧ g.a = 0 ∧ g.b = 0 ∧ g.k ≤ 1 := by
  unfold validGate at h
  omega
section
variable {G : Heap} {jc : Nat} {p : Int} {gv ov iv av bv : Value} {gs : List Gate} {os : List Int} {ins : List (List Int)}
theorem counts_loop (hc : CircAt G jc p gv ov gs os) (hin : Sl (eSlice (eInt .u64)) G iv ins) (hv : validGates p gs) (hf : fits p gs ins) {kn : Value → Value → Heap → Prop} {Q : Ending → Heap → Prop}
    (h1 : ∀ K, Grown G K 1 4 bv ins.length ((bads ins gs gs.length).map .bool) → kn iv bv K) :
    ∀ (d i : Nat) (K : Heap), gs.length - i = d → i ≤ gs.length → Grown G K 1 3 av ins.length (icells (counts ins.length (gs.take i))) → Grown G K 1 4 bv ins.length ((bads ins gs i).map .bool) →
      L15_7 iv (ptrTo jc) av bv (.int .i64 i) K kn Q
  | d, i, K, hd, hi, ha, hb => by
    apply L15_7_round
    unfold m15_8
    have hcK := hc.mono ha.1
    have hm := hc.gates.max
    simp only [↓hs_some, ↓hs_fieldto, ↓hs_field, ↓hs_nilto, ↓hs_nilp, ↓hs_gTT, ↓hs_gFF, ↓hs_gTF, ↓hs_gFT, ↓hs_pickT, ↓hs_pickF, ↓hs_not, ↓hs_len, ↓hs_conv, ↓hs_ex0, ↓hs_ex1, ↓hs_add, ↓hs_sub, ↓hs_mul, ↓hs_eql, ↓hs_neq, ↓hs_lss, ↓hs_leq, ↓hs_gtr, ↓hs_geq, ↓oV_of hcK.lg, ↓oV_of hcK.gates.len]
    refine condK_dec (fun hlt => ?_) (fun hlt => ?_)
    · have hlt' : i < gs.length := by omega
      obtain ⟨q, off, g1, g2, _, _⟩ := hcK.gates.gate hlt'
      simp only [↓hs_some, ↓hs_fieldto, ↓hs_field, ↓hs_nilto, ↓hs_nilp, ↓hs_gTT, ↓hs_gFF, ↓hs_gTF, ↓hs_gFT, ↓hs_pickT, ↓hs_pickF, ↓hs_not, ↓hs_len, ↓hs_conv, ↓hs_ex0, ↓hs_ex1, ↓hs_add, ↓hs_sub, ↓hs_mul, ↓hs_eql, ↓hs_neq, ↓hs_lss, ↓hs_leq, ↓hs_gtr, ↓hs_geq, ↓oV_of hcK.lg, ↓oV_of g1, ↓oV_of g2]
      refine local_gate gs[i] fun x hx => ?_
      have hga : GateAt (hins K x (.cells gs[i].cells 5 37 true)) x gs[i] := ⟨hins_self _ _ _⟩
      have hle := Le.ins (.cells gs[i].cells 5 37 true) hx
      generalize hins K x (.cells gs[i].cells 5 37 true) = K1 at hga hle ⊢
      replace ha := ha.le hle
      replace hb := hb.le hle
      have w1 := wrap_i64 (show -9223372036854775808 ≤ (i : Int) + 1 by omega) (by omega)
      simp only [↓hs_some, ↓hs_fieldto, ↓hs_field, ↓hs_nilto, ↓hs_nilp, ↓hs_gTT, ↓hs_gFF, ↓hs_gTF, ↓hs_gFT, ↓hs_pickT, ↓hs_pickF, ↓hs_not, ↓hs_len, ↓hs_conv, ↓hs_ex0, ↓hs_ex1, ↓hs_add, ↓hs_sub, ↓hs_mul, ↓hs_eql, ↓hs_neq, ↓hs_lss, ↓hs_leq, ↓hs_gtr, ↓hs_geq, ↓oV_of hga.l0]
      refine condK_dec (fun hk => ?_) (fun hk => ?_)
      · simp only [↓hs_some, ↓hs_fieldto, ↓hs_field, ↓hs_nilto, ↓hs_nilp, ↓hs_gTT, ↓hs_gFF, ↓hs_gTF, ↓hs_gFT, ↓hs_pickT, ↓hs_pickF, ↓hs_not, ↓hs_len, ↓hs_conv, ↓hs_ex0, ↓hs_ex1, ↓hs_add, ↓hs_sub, ↓hs_mul, ↓hs_eql, ↓hs_neq, ↓hs_lss, ↓hs_leq, ↓hs_gtr, ↓hs_geq, w1]
        refine counts_loop hc hin hv hf h1 (d - 1) (i + 1) K1 (by omega) (by omega) ?_ ?_
        · rw [counts_skip _ _ hlt' hk]; exact ha
        · rw [bads_skip _ _ hlt' hk]; exact hb
      · have hk : gs[i].kind = 1 := by simpa using hk
        obtain ⟨f1, f2, _, _, _⟩ := valid_in (hv i hlt') hk
        have f3 := hf.1 i hlt' hk
        obtain ⟨j, hj⟩ : ∃ j : Nat, gs[i].frm = j + 1 := ⟨(gs[i].frm - 1).toNat, by omega⟩
        have hjl : j < ins.length := by omega
        have wj : IntKind.i64.wrap (gs[i].frm - 1) = j := by
          rw [wrap_i64 (by omega) (by omega)]
          omega
        obtain ⟨pa, xa, a1, a2, a3, a4⟩ := ha.ix .i64 hjl
        rw [icells, List.getElem?_map, counts_get _ _ hjl] at a2
        cases a2
        obtain ⟨pb, xb, b1, b2, b3, b4⟩ := hb.ix .i64 hjl
        have hcl := inCount_lt gs hlt' (j + 1) hk hj
        have hlen := (hf.2 j hjl).1
        obtain ⟨pi, ui, i1, i2, i3⟩ := (hin.mono ha.1).slice .i64 (i := (j : Int)) (by omega) (by omega) (ti := ty30) rfl
        have ei : ins.getD (j : Int).toNat [] = ins[j] := by simp [hjl]
        rw [ei] at i3
        obtain ⟨pw, w1', w2'⟩ := i3.int .i64 (i := (inCount (j + 1) (gs.take i) : Int)) (by omega) (by omega) (ti := ty22) rfl
        rw [Int.toNat_natCast] at w2'
        have hcb := inCount_le (j + 1) gs i
        have wc := wrap_i64 (show -9223372036854775808 ≤ (inCount (j + 1) (gs.take i) : Int) + 1 by omega) (by omega)
        have fin : ∀ (b : Bool) (K2 : Heap), b = (decide (gs[i].k = 1) && decide (1 < ins[j].getD (inCount (j + 1) (gs.take i)) 0)) → Grown G K2 1 3 av ins.length ((icells (counts ins.length (gs.take i))).set j (.int .i64 ((inCount (j + 1) (gs.take i) : Int) + 1))) →
            Grown G K2 1 4 bv ins.length (if b then ((bads ins gs i).map Value.bool).set j (.bool true) else (bads ins gs i).map Value.bool) → L15_7 iv (ptrTo jc) av bv (.int .i64 ((i : Int) + 1)) K2 kn Q := by
          intro b K2 hbb ha2 hb2
          refine counts_loop hc hin hv hf h1 (d - 1) (i + 1) K2 (by omega) (by omega) ?_ ?_
          · rw [counts_take _ _ hlt' hk hjl hj, icells, List.map_set]
            exact ha2
          · rw [bads_take _ _ hlt' hk hjl hj b hbb]
            cases b with
            | true => rw [if_pos rfl, List.map_set]; exact hb2
            | false => exact hb2
        simp only [↓hs_some, ↓hs_fieldto, ↓hs_field, ↓hs_nilto, ↓hs_nilp, ↓hs_gTT, ↓hs_gFF, ↓hs_gTF, ↓hs_gFT, ↓hs_pickT, ↓hs_pickF, ↓hs_not, ↓hs_len, ↓hs_conv, ↓hs_ex0, ↓hs_ex1, ↓hs_add, ↓hs_sub, ↓hs_mul, ↓hs_eql, ↓hs_neq, ↓hs_lss, ↓hs_leq, ↓hs_gtr, ↓hs_geq, ↓oV_of hga.l4]
        by_cases ck : gs[i].k = 1
        · rw [decide_eq_true ck]
          simp only [↓hs_some, ↓hs_fieldto, ↓hs_field, ↓hs_nilto, ↓hs_nilp, ↓hs_gTT, ↓hs_gFF, ↓hs_gTF, ↓hs_gFT, ↓hs_pickT, ↓hs_pickF, ↓hs_not, ↓hs_len, ↓hs_conv, ↓hs_ex0, ↓hs_ex1, ↓hs_add, ↓hs_sub, ↓hs_mul, ↓hs_eql, ↓hs_neq, ↓hs_lss, ↓hs_leq, ↓hs_gtr, ↓hs_geq, ↓oV_of hga.l1, wj, ↓oV_of i1, ↓oV_of i2, ↓oV_of a1, ↓oV_of (a3 ty3 rfl), ↓oV_of w1', ↓oV_of w2']
          refine condK_dec (fun c2 => ?_) (fun c2 => ?_)
          · obtain ⟨K2, s1, s2, s3, s4⟩ := b4 ty4 (.bool true) rfl rfl rfl
            have ha2 := s3 ha (by decide)
            obtain ⟨pa2, xa2, c1, c2', c3, c4⟩ := ha2.ix .i64 hjl
            rw [icells, List.getElem?_map, counts_get _ _ hjl] at c2'
            cases c2'
            obtain ⟨K3, t1, t2, t3, _⟩ := c4 ty3 (.int .i64 ((inCount (j + 1) (gs.take i) : Int) + 1)) rfl rfl rfl
            have hg2 : GateAt K2 x gs[i] := ⟨s4 _ _ _ _ _ hga.blk (by decide)⟩
            simp only [↓hs_some, ↓hs_fieldto, ↓hs_field, ↓hs_nilto, ↓hs_nilp, ↓hs_gTT, ↓hs_gFF, ↓hs_gTF, ↓hs_gFT, ↓hs_pickT, ↓hs_pickF, ↓hs_not, ↓hs_len, ↓hs_conv, ↓hs_ex0, ↓hs_ex1, ↓hs_add, ↓hs_sub, ↓hs_mul, ↓hs_eql, ↓hs_neq, ↓hs_lss, ↓hs_leq, ↓hs_gtr, ↓hs_geq, ↓oV_of hga.l1, wj, ↓oV_of b1, ↓oHeap_of s1, ↓oV_of hg2.l1, ↓oV_of c1, ↓oV_of (c3 ty3 rfl), wc, ↓oHeap_of t1, w1]
            exact fin true K3 (by rw [decide_eq_true ck, decide_eq_true c2]; rfl) t2 (t3 s2 (by decide))
          · obtain ⟨K3, t1, t2, t3, _⟩ := a4 ty3 (.int .i64 ((inCount (j + 1) (gs.take i) : Int) + 1)) rfl rfl rfl
            simp only [↓hs_some, ↓hs_fieldto, ↓hs_field, ↓hs_nilto, ↓hs_nilp, ↓hs_gTT, ↓hs_gFF, ↓hs_gTF, ↓hs_gFT, ↓hs_pickT, ↓hs_pickF, ↓hs_not, ↓hs_len, ↓hs_conv, ↓hs_ex0, ↓hs_ex1, ↓hs_add, ↓hs_sub, ↓hs_mul, ↓hs_eql, ↓hs_neq, ↓hs_lss, ↓hs_leq, ↓hs_gtr, ↓hs_geq, ↓oV_of hga.l1, wj, ↓oV_of a1, ↓oV_of (a3 ty3 rfl), wc, ↓oHeap_of t1, w1]
            exact fin false K3 (by rw [decide_eq_true ck, decide_eq_false c2]; rfl) t2 (t3 hb (by decide))
        · rw [decide_eq_false ck]
          simp only [↓hs_some, ↓hs_fieldto, ↓hs_field, ↓hs_nilto, ↓hs_nilp, ↓hs_gTT, ↓hs_gFF, ↓hs_gTF, ↓hs_gFT, ↓hs_pickT, ↓hs_pickF, ↓hs_not, ↓hs_len, ↓hs_conv, ↓hs_ex0, ↓hs_ex1, ↓hs_add, ↓hs_sub, ↓hs_mul, ↓hs_eql, ↓hs_neq, ↓hs_lss, ↓hs_leq, ↓hs_gtr, ↓hs_geq]
          refine condK_false ?_
          obtain ⟨K3, t1, t2, t3, _⟩ := a4 ty3 (.int .i64 ((inCount (j + 1) (gs.take i) : Int) + 1)) rfl rfl rfl
          simp only [↓hs_some, ↓hs_fieldto, ↓hs_field, ↓hs_nilto, ↓hs_nilp, ↓hs_gTT, ↓hs_gFF, ↓hs_gTF, ↓hs_gFT, ↓hs_pickT, ↓hs_pickF, ↓hs_not, ↓hs_len, ↓hs_conv, ↓hs_ex0, ↓hs_ex1, ↓hs_add, ↓hs_sub, ↓hs_mul, ↓hs_eql, ↓hs_neq, ↓hs_lss, ↓hs_leq, ↓hs_gtr, ↓hs_geq, ↓oV_of hga.l1, wj, ↓oV_of a1, ↓oV_of (a3 ty3 rfl), wc, ↓oHeap_of t1, w1]
          exact fin false K3 (by rw [decide_eq_false ck, Bool.false_and]) t2 (t3 hb (by decide))
    · have : i = gs.length := by omega
      subst this
      exact h1 K hb
  termination_by d => d
end
end Go.Proofs.YtpbaoefjkfdgmaaDoor.SL
