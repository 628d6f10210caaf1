/- Equal circuits; GadgetCircuitSnapshots. -/
import Derived.Test.YtpbaoefjkfdgmaaGadP
set_option linter.unusedVariables false
set_option linter.unusedSimpArgs false
namespace Go.Proofs.Ytpbaoefjkfdgmaa.SL
open Go

theorem gate_neq (g : Gate) : vAggOp 5 .neq g.val g.val = some (.bool false) := by
  have h : eqCells g.cells g.cells = some true := by simp [Gate.cells, eqCells]
  unfold vAggOp Gate.val
  simp only
  rw [if_pos ⟨rfl, rfl⟩]
  exact (congrArg (Option.map fun b => Value.bool !b) h)
section
variable {H : Heap} {j1 j2 : Nat} {p : Int} {gv ov gv2 ov2 : Value} {gs : List Gate} {os : List Int}
theorem equal_gates (hc : CircAt H j1 p gv ov gs os) (hd : CircAt H j2 p gv2 ov2 gs os) {kn : Value → Value → Heap → Prop} {Q : Ending → Heap → Prop} (h1 : kn (ptrTo j1) (ptrTo j2) H) :
    ∀ (d i : Nat), gs.length - i = d → i ≤ gs.length → L25_7 (ptrTo j1) (ptrTo j2) (.int .i64 i) H kn Q
  | d, i, hd', hi => by
    apply L25_7_round
    unfold m25_8
    have hm := hc.gates.max
    simp only [↓hs_some, ↓hs_fieldto, ↓hs_field, ↓hs_nilto, ↓hs_nilp, ↓hs_gTT, ↓hs_gFF, ↓hs_gTF, ↓hs_gFT, ↓hs_pickT, ↓hs_pickF, ↓hs_not, ↓hs_len, ↓hs_conv, ↓hs_ex0, ↓hs_ex1, ↓hs_add, ↓hs_sub, ↓hs_mul, ↓hs_eql, ↓hs_neq, ↓hs_lss, ↓hs_leq, ↓hs_gtr, ↓hs_geq, ↓oV_of hc.lg, ↓oV_of hc.gates.len]
    refine condK_dec (fun hlt => ?_) (fun hlt => h1)
    have hlt' : i < gs.length := by omega
    obtain ⟨q, off, g1, g2, _, _⟩ := hc.gates.gate hlt'
    obtain ⟨q', off', e1, e2, _, _⟩ := hd.gates.gate hlt'
    simp only [↓hs_some, ↓hs_fieldto, ↓hs_field, ↓hs_nilto, ↓hs_nilp, ↓hs_gTT, ↓hs_gFF, ↓hs_gTF, ↓hs_gFT, ↓hs_pickT, ↓hs_pickF, ↓hs_not, ↓hs_len, ↓hs_conv, ↓hs_ex0, ↓hs_ex1, ↓hs_add, ↓hs_sub, ↓hs_mul, ↓hs_eql, ↓hs_neq, ↓hs_lss, ↓hs_leq, ↓hs_gtr, ↓hs_geq, ↓oV_of hc.lg, ↓oV_of g1, ↓oV_of g2, ↓oV_of hd.lg, ↓oV_of e1, ↓oV_of e2, ↓oV_of (gate_neq _)]
    refine condK_false ?_
    simp only [↓hs_some, ↓hs_fieldto, ↓hs_field, ↓hs_nilto, ↓hs_nilp, ↓hs_gTT, ↓hs_gFF, ↓hs_gTF, ↓hs_gFT, ↓hs_pickT, ↓hs_pickF, ↓hs_not, ↓hs_len, ↓hs_conv, ↓hs_ex0, ↓hs_ex1, ↓hs_add, ↓hs_sub, ↓hs_mul, ↓hs_eql, ↓hs_neq, ↓hs_lss, ↓hs_leq, ↓hs_gtr, ↓hs_geq, wrap_i64 (show -9223372036854775808 ≤ (i : Int) + 1 by omega) (by omega)]
    exact equal_gates hc hd h1 (d - 1) (i + 1) (by omega) (by omega)
  termination_by d => d
theorem equal_outs (hc : CircAt H j1 p gv ov gs os) (hd : CircAt H j2 p gv2 ov2 gs os) {kn : Heap → Prop} {Q : Ending → Heap → Prop} (h1 : kn H) :
    ∀ (d i : Nat), os.length - i = d → i ≤ os.length → L25_4 (ptrTo j1) (ptrTo j2) (.int .i64 i) H kn Q
  | d, i, hd', hi => by
    apply L25_4_round
    unfold m25_5
    have hm := hc.outs.max
    simp only [↓hs_some, ↓hs_fieldto, ↓hs_field, ↓hs_nilto, ↓hs_nilp, ↓hs_gTT, ↓hs_gFF, ↓hs_gTF, ↓hs_gFT, ↓hs_pickT, ↓hs_pickF, ↓hs_not, ↓hs_len, ↓hs_conv, ↓hs_ex0, ↓hs_ex1, ↓hs_add, ↓hs_sub, ↓hs_mul, ↓hs_eql, ↓hs_neq, ↓hs_lss, ↓hs_leq, ↓hs_gtr, ↓hs_geq, ↓oV_of hc.lo, ↓oV_of hc.outs.len]
    refine condK_dec (fun hlt => ?_) (fun hlt => h1)
    have hlt' : i < os.length := by omega
    obtain ⟨q, g1, g2⟩ := hc.outs.int .i64 (i := (i : Int)) (by omega) (by omega) (ti := ty3) rfl
    obtain ⟨q', e1, e2⟩ := hd.outs.int .i64 (i := (i : Int)) (by omega) (by omega) (ti := ty3) rfl
    simp only [↓hs_some, ↓hs_fieldto, ↓hs_field, ↓hs_nilto, ↓hs_nilp, ↓hs_gTT, ↓hs_gFF, ↓hs_gTF, ↓hs_gFT, ↓hs_pickT, ↓hs_pickF, ↓hs_not, ↓hs_len, ↓hs_conv, ↓hs_ex0, ↓hs_ex1, ↓hs_add, ↓hs_sub, ↓hs_mul, ↓hs_eql, ↓hs_neq, ↓hs_lss, ↓hs_leq, ↓hs_gtr, ↓hs_geq, ↓oV_of hc.lo, ↓oV_of g1, ↓oV_of g2, ↓oV_of hd.lo, ↓oV_of e1, ↓oV_of e2]
    refine condK_dec (fun h => absurd rfl h) (fun _ => ?_)
    simp only [↓hs_some, ↓hs_fieldto, ↓hs_field, ↓hs_nilto, ↓hs_nilp, ↓hs_gTT, ↓hs_gFF, ↓hs_gTF, ↓hs_gFT, ↓hs_pickT, ↓hs_pickF, ↓hs_not, ↓hs_len, ↓hs_conv, ↓hs_ex0, ↓hs_ex1, ↓hs_add, ↓hs_sub, ↓hs_mul, ↓hs_eql, ↓hs_neq, ↓hs_lss, ↓hs_leq, ↓hs_gtr, ↓hs_geq, wrap_i64 (show -9223372036854775808 ≤ (i : Int) + 1 by omega) (by omega)]
    exact equal_outs hc hd h1 (d - 1) (i + 1) (by omega) (by omega)
  termination_by d => d
theorem equal_spec {c c2 : Value} (h : Circ H c p gs os) (h2 : Circ H c2 p gs os) : RCalls Try.prog 25 [c, c2] H (Grow (.bool true) H) := by
  apply call25
  unfold m25
  refine circ_new h fun i H1 gv ov hl hc => ?_
  refine circ_new (h2.mono hl) fun i2 H2 gv2 ov2 hl2 hd => ?_
  replace hc := hc.mono hl2
  refine oV_eq (vField_to _ _) (oV_eq hc.lp (oV_eq (vField_to _ _) (oV_eq hd.lp (oV_eq (vInt_neq _ _ _) ?_))))
  rw [show decide (p ≠ p) = false by simp]
  simp only [↓hs_some, ↓hs_fieldto, ↓hs_field, ↓hs_nilto, ↓hs_nilp, ↓hs_gTT, ↓hs_gFF, ↓hs_gTF, ↓hs_gFT, ↓hs_pickT, ↓hs_pickF, ↓hs_not, ↓hs_len, ↓hs_conv, ↓hs_ex0, ↓hs_ex1, ↓hs_add, ↓hs_sub, ↓hs_mul, ↓hs_eql, ↓hs_neq, ↓hs_lss, ↓hs_leq, ↓hs_gtr, ↓hs_geq, ↓oV_of hc.lg, ↓oV_of hd.lg, ↓oV_of hc.gates.len, ↓oV_of hd.gates.len]
  rw [show decide ((gs.length : Int) ≠ gs.length) = false by simp]
  simp only [↓hs_some, ↓hs_fieldto, ↓hs_field, ↓hs_nilto, ↓hs_nilp, ↓hs_gTT, ↓hs_gFF, ↓hs_gTF, ↓hs_gFT, ↓hs_pickT, ↓hs_pickF, ↓hs_not, ↓hs_len, ↓hs_conv, ↓hs_ex0, ↓hs_ex1, ↓hs_add, ↓hs_sub, ↓hs_mul, ↓hs_eql, ↓hs_neq, ↓hs_lss, ↓hs_leq, ↓hs_gtr, ↓hs_geq, ↓oV_of hc.lo, ↓oV_of hd.lo, ↓oV_of hc.outs.len, ↓oV_of hd.outs.len]
  refine condK_dec (fun h => absurd rfl h) (fun _ => ?_)
  unfold m25_6
  refine equal_gates hc hd ?_ _ 0 rfl (by omega)
  unfold m25_1 m25_3
  exact equal_outs hc hd ⟨rfl, hl.trans hl2⟩ _ 0 rfl (by omega)
end
end Go.Proofs.Ytpbaoefjkfdgmaa.SL
