/- Which gates and circuits are valid. -/
import Derived.Test.YtpbaoefjkfdgmaaDoorCirA
import Derived.Test.YtpbaoefjkfdgmaaDoorSlT
set_option linter.unusedVariables false
set_option linter.unusedSimpArgs false
namespace Go.Proofs.YtpbaoefjkfdgmaaDoor.SL
open Go

def validGate (p i : Int) (g : Gate) : Prop :=
  (g.kind = 1 ∧ g.a = 0 ∧ g.b = 0 ∧ 1 ≤ g.frm ∧ g.frm ≤ 13 ∧ g.k ≤ 1) ∨ (g.kind = 2 ∧ g.frm = 0 ∧ g.a = 0 ∧ g.b = 0 ∧ g.k < p) ∨ (g.kind = 5 ∧ g.frm = 0 ∧ g.b = 0 ∧ g.k < p ∧ 0 ≤ g.a ∧ g.a < i) ∨
  ((g.kind = 3 ∨ g.kind = 4 ∨ g.kind = 6) ∧ g.frm = 0 ∧ g.k = 0 ∧ 0 ≤ g.a ∧ g.a < i ∧ 0 ≤ g.b ∧ g.b < i)
instance (p i : Int) (g : Gate) : Decidable (validGate p i g) := by unfold validGate; infer_instance
theorem gate_ext (g : Gate) (a b c d e : Int) : (g = ⟨a, b, c, d, e⟩) ↔ (g.kind = a ∧ g.frm = b ∧ g.a = c ∧ g.b = d ∧ g.k = e) := by
  cases g
  simp
theorem gate_eq (g : Gate) (a b c d e : Int) : vAggOp 5 .eql g.val (.agg #[.int .i64 a, .int .i64 b, .int .i64 c, .int .i64 d, .int .u64 e]) = some (.bool (decide (g = ⟨a, b, c, d, e⟩))) := by
  have hd : decide (g = ⟨a, b, c, d, e⟩) = (g.kind == a && (g.frm == b && (g.a == c && (g.b == d && (g.k == e && true))))) := by
    rw [Bool.eq_iff_iff]
    simp [gate_ext]
  have h : eqCells g.cells [.int .i64 a, .int .i64 b, .int .i64 c, .int .i64 d, .int .u64 e] = some (decide (g = ⟨a, b, c, d, e⟩)) := by
    rw [hd]
    simp only [Gate.cells, eqCells, if_true, Option.map_some]
  unfold vAggOp Gate.val
  simp only
  rw [if_pos ⟨rfl, rfl⟩]
  exact (congrArg (Option.map Value.bool) h)
theorem gate_valid (H : Heap) (p i : Int) (g : Gate) : RCalls Tryd.prog 24 [.int .u64 p, .int .i64 i, g.val] H (Grow (.bool (decide (validGate p i g))) H) := by
  apply call24
  unfold m24
  show oNew g.cells 5 37 H _
  intro i1 hi1
  have e1 : vLoad ty3 (.pointer (some ⟨i1, 0, none⟩)) (hins H i1 (.cells g.cells 5 37 true)) = some (.int .i64 g.kind) := by
    simp only [vLoad, hins_self]
    rfl
  refine oV_eq (vField_to _ _) (oV_eq e1 (oV_eq (show vBuild ty37 [((0, 1), .int .i64 g.kind)] = some (.agg #[.int .i64 g.kind, .int .i64 0, .int .i64 0, .int .i64 0, .int .u64 0]) from rfl) ?_))
  show oNew [.int .i64 0, .int .i64 0, .int .i64 0, .int .i64 0, .int .u64 0] 5 37 _ _
  intro i6 hi6
  obtain ⟨hne, hi6'⟩ := hins_none hi6
  have hne' : i1 ≠ i6 := Ne.symm hne
  obtain ⟨K, hK⟩ : ∃ K : List Value → Heap, K = fun d => hins (hins H i1 (.cells g.cells 5 37 true)) i6 (.cells d 5 37 true) := ⟨_, rfl⟩
  have hKd : ∀ d, hins (hins H i1 (.cells g.cells 5 37 true)) i6 (.cells d 5 37 true) = K d := fun d => by rw [hK]
  have hle : ∀ d, Le H (K d) := fun d => by
    rw [hK]
    exact (Le.ins _ hi1).trans (Le.ins _ hi6)
  have g1 : ∀ d, K d i1 = some (.cells g.cells 5 37 true) := fun d => by
    rw [hK]
    simp only [hins_other _ _ hne', hins_self]
  have g6 : ∀ d, K d i6 = some (.cells d 5 37 true) := fun d => by
    rw [hK]
    simp only [hins_self]
  have kk : ∀ d c, hins (K d) i6 (.cells c 5 37 true) = K c := fun d c => by
    rw [hK]
    exact hins_hins _ _ _ _
  have l0 : ∀ d, vLoad ty3 (.pointer (some ⟨i1, 0, none⟩)) (K d) = some (.int .i64 g.kind) := fun d => by simp only [vLoad, g1]; rfl
  have l1 : ∀ d, vLoad ty3 (.pointer (some ⟨i1, 1, none⟩)) (K d) = some (.int .i64 g.frm) := fun d => by simp only [vLoad, g1]; rfl
  have l2 : ∀ d, vLoad ty3 (.pointer (some ⟨i1, 2, none⟩)) (K d) = some (.int .i64 g.a) := fun d => by simp only [vLoad, g1]; rfl
  have l3 : ∀ d, vLoad ty3 (.pointer (some ⟨i1, 3, none⟩)) (K d) = some (.int .i64 g.b) := fun d => by simp only [vLoad, g1]; rfl
  have l4 : ∀ d, vLoad ty22 (.pointer (some ⟨i1, 4, none⟩)) (K d) = some (.int .u64 g.k) := fun d => by simp only [vLoad, g1]; rfl
  have lv : ∀ d, vLoad ty37 (ptrTo i1) (K d) = some g.val := fun d => by simp only [vLoad, ptrTo, g1]; rfl
  have lb : ∀ a b c d e, vLoad ty37 (ptrTo i6) (K [a, b, c, d, e]) = some (.agg #[a, b, c, d, e]) := fun a b c d e => by simp only [vLoad, ptrTo, g6]; rfl
  have s0 : vStore ty37 (ptrTo i6) (.agg #[.int .i64 g.kind, .int .i64 0, .int .i64 0, .int .i64 0, .int .u64 0]) (K [.int .i64 0, .int .i64 0, .int .i64 0, .int .i64 0, .int .u64 0]) = some (K [.int .i64 g.kind, .int .i64 0, .int .i64 0, .int .i64 0, .int .u64 0]) := by
    rw [← kk _ [.int .i64 g.kind, .int .i64 0, .int .i64 0, .int .i64 0, .int .u64 0]]
    simp only [vStore, ptrTo, g6]
    rfl
  have s1 : ∀ a b c d e x, vStore ty3 (.pointer (some ⟨i6, 1, none⟩)) (.int .i64 x) (K [a, b, c, d, e]) = some (K [a, .int .i64 x, c, d, e]) := fun a b c d e x => by
    rw [← kk _ [a, .int .i64 x, c, d, e]]
    simp only [vStore, ptrTo, g6]
    rfl
  have s2 : ∀ a b c d e x, vStore ty3 (.pointer (some ⟨i6, 2, none⟩)) (.int .i64 x) (K [a, b, c, d, e]) = some (K [a, b, .int .i64 x, d, e]) := fun a b c d e x => by
    rw [← kk _ [a, b, .int .i64 x, d, e]]
    simp only [vStore, ptrTo, g6]
    rfl
  have s3 : ∀ a b c d e x, vStore ty3 (.pointer (some ⟨i6, 3, none⟩)) (.int .i64 x) (K [a, b, c, d, e]) = some (K [a, b, c, .int .i64 x, e]) := fun a b c d e x => by
    rw [← kk _ [a, b, c, .int .i64 x, e]]
    simp only [vStore, ptrTo, g6]
    rfl
  have s4k : ∀ a b c d e x, vStore ty22 (.pointer (some ⟨i6, 4, none⟩)) (.int .u64 x) (K [a, b, c, d, e]) = some (K [a, b, c, d, .int .u64 x]) := fun a b c d e x => by
    rw [← kk _ [a, b, c, d, .int .u64 x]]
    simp only [vStore, ptrTo, g6]
    rfl
  rw [hKd]
  refine oHeap_eq s0 ?_
  have done : ∀ (b : Bool) {d : List Value}, (b = true ↔ validGate p i g) → Grow (.bool (decide (validGate p i g))) H (.returned (.bool b)) (K d) := fun b d h => by
    refine ⟨?_, hle d⟩
    congr 1
    by_cases hv : validGate p i g
    · rw [decide_eq_true hv]
      exact h.2 hv
    · rw [decide_eq_false hv]
      cases b with
      | true => exact absurd (h.1 rfl) hv
      | false => rfl
  refine oV_eq (vField_to _ _) (oV_eq (l0 _) (oV_eq (vInt_eql _ _ _) ?_))
  refine condK_dec (fun k1 => ?_) (fun k1 => ?_)
  · simp only [↓hs_some, ↓hs_fieldto, ↓hs_field, ↓hs_nilto, ↓hs_nilp, ↓hs_gTT, ↓hs_gFF, ↓hs_gTF, ↓hs_gFT, ↓hs_pickT, ↓hs_pickF, ↓hs_not, ↓hs_len, ↓hs_conv, ↓hs_ex0, ↓hs_ex1, ↓hs_add, ↓hs_sub, ↓hs_mul, ↓hs_eql, ↓hs_neq, ↓hs_lss, ↓hs_leq, ↓hs_gtr, ↓hs_geq, ↓oV_of (l1 _), ↓oV_of (l2 _), ↓oV_of (l3 _), ↓oV_of (l4 _), ↓oHeap_of (s1 _ _ _ _ _ _), ↓oHeap_of (s2 _ _ _ _ _ _), ↓oHeap_of (s3 _ _ _ _ _ _), ↓oHeap_of (s4k _ _ _ _ _ _)]
    refine ⟨l4 _, ?_⟩
    simp only [↓hs_some, ↓hs_fieldto, ↓hs_field, ↓hs_nilto, ↓hs_nilp, ↓hs_gTT, ↓hs_gFF, ↓hs_gTF, ↓hs_gFT, ↓hs_pickT, ↓hs_pickF, ↓hs_not, ↓hs_len, ↓hs_conv, ↓hs_ex0, ↓hs_ex1, ↓hs_add, ↓hs_sub, ↓hs_mul, ↓hs_eql, ↓hs_neq, ↓hs_lss, ↓hs_leq, ↓hs_gtr, ↓hs_geq, ↓oV_of (l1 _), ↓oV_of (l2 _), ↓oV_of (l3 _), ↓oV_of (l4 _), ↓oHeap_of (s1 _ _ _ _ _ _), ↓oHeap_of (s2 _ _ _ _ _ _), ↓oHeap_of (s3 _ _ _ _ _ _), ↓oHeap_of (s4k _ _ _ _ _ _), ↓oV_of (lv _), ↓oV_of (lb _ _ _ _ _), ↓oV_of (gate_eq _ _ _ _ _ _)]
    have hv : validGate p i g ↔ (g = ⟨g.kind, g.frm, 0, 0, g.k⟩ ∧ 1 ≤ g.frm ∧ g.frm ≤ 13 ∧ g.k ≤ 1) := by rw [gate_ext]; unfold validGate; omega
    by_cases ce : g = ⟨g.kind, g.frm, 0, 0, g.k⟩
    case neg =>
      rw [decide_eq_false ce]
      exact done false (iff_of_false (by simp) (fun h => ce ((hv.1 h).1)))
    rw [decide_eq_true ce]
    simp only [↓hs_some, ↓hs_fieldto, ↓hs_field, ↓hs_nilto, ↓hs_nilp, ↓hs_gTT, ↓hs_gFF, ↓hs_gTF, ↓hs_gFT, ↓hs_pickT, ↓hs_pickF, ↓hs_not, ↓hs_len, ↓hs_conv, ↓hs_ex0, ↓hs_ex1, ↓hs_add, ↓hs_sub, ↓hs_mul, ↓hs_eql, ↓hs_neq, ↓hs_lss, ↓hs_leq, ↓hs_gtr, ↓hs_geq, ↓oV_of (l0 _), ↓oV_of (l1 _), ↓oV_of (l2 _), ↓oV_of (l3 _), ↓oV_of (l4 _)]
    by_cases cf1 : 1 ≤ g.frm
    case neg =>
      rw [decide_eq_false cf1]
      exact done false (iff_of_false (by simp) (fun h => cf1 ((hv.1 h).2.1)))
    rw [decide_eq_true cf1]
    simp only [↓hs_some, ↓hs_fieldto, ↓hs_field, ↓hs_nilto, ↓hs_nilp, ↓hs_gTT, ↓hs_gFF, ↓hs_gTF, ↓hs_gFT, ↓hs_pickT, ↓hs_pickF, ↓hs_not, ↓hs_len, ↓hs_conv, ↓hs_ex0, ↓hs_ex1, ↓hs_add, ↓hs_sub, ↓hs_mul, ↓hs_eql, ↓hs_neq, ↓hs_lss, ↓hs_leq, ↓hs_gtr, ↓hs_geq, ↓oV_of (l0 _), ↓oV_of (l1 _), ↓oV_of (l2 _), ↓oV_of (l3 _), ↓oV_of (l4 _)]
    by_cases cf2 : g.frm ≤ 13
    case neg =>
      rw [decide_eq_false cf2]
      exact done false (iff_of_false (by simp) (fun h => cf2 ((hv.1 h).2.2.1)))
    rw [decide_eq_true cf2]
    simp only [↓hs_some, ↓hs_fieldto, ↓hs_field, ↓hs_nilto, ↓hs_nilp, ↓hs_gTT, ↓hs_gFF, ↓hs_gTF, ↓hs_gFT, ↓hs_pickT, ↓hs_pickF, ↓hs_not, ↓hs_len, ↓hs_conv, ↓hs_ex0, ↓hs_ex1, ↓hs_add, ↓hs_sub, ↓hs_mul, ↓hs_eql, ↓hs_neq, ↓hs_lss, ↓hs_leq, ↓hs_gtr, ↓hs_geq, ↓oV_of (l0 _), ↓oV_of (l1 _), ↓oV_of (l2 _), ↓oV_of (l3 _), ↓oV_of (l4 _)]
    by_cases ck : g.k ≤ 1
    case neg =>
      rw [decide_eq_false ck]
      exact done false (iff_of_false (by simp) (fun h => ck ((hv.1 h).2.2.2)))
    rw [decide_eq_true ck]
    exact done true (iff_of_true rfl (hv.2 ⟨ce, cf1, cf2, ck⟩))
  refine oV_eq (vInt_eql _ _ _) ?_
  refine condK_dec (fun k2 => ?_) (fun k2 => ?_)
  · simp only [↓hs_some, ↓hs_fieldto, ↓hs_field, ↓hs_nilto, ↓hs_nilp, ↓hs_gTT, ↓hs_gFF, ↓hs_gTF, ↓hs_gFT, ↓hs_pickT, ↓hs_pickF, ↓hs_not, ↓hs_len, ↓hs_conv, ↓hs_ex0, ↓hs_ex1, ↓hs_add, ↓hs_sub, ↓hs_mul, ↓hs_eql, ↓hs_neq, ↓hs_lss, ↓hs_leq, ↓hs_gtr, ↓hs_geq, ↓oV_of (l1 _), ↓oV_of (l2 _), ↓oV_of (l3 _), ↓oV_of (l4 _), ↓oHeap_of (s1 _ _ _ _ _ _), ↓oHeap_of (s2 _ _ _ _ _ _), ↓oHeap_of (s3 _ _ _ _ _ _), ↓oHeap_of (s4k _ _ _ _ _ _), ↓oV_of (lv _), ↓oV_of (lb _ _ _ _ _), ↓oV_of (gate_eq _ _ _ _ _ _)]
    have hv : validGate p i g ↔ (g = ⟨g.kind, 0, 0, 0, g.k⟩ ∧ g.k < p) := by rw [gate_ext]; unfold validGate; omega
    by_cases ce : g = ⟨g.kind, 0, 0, 0, g.k⟩
    case neg =>
      rw [decide_eq_false ce]
      exact done false (iff_of_false (by simp) (fun h => ce ((hv.1 h).1)))
    rw [decide_eq_true ce]
    simp only [↓hs_some, ↓hs_fieldto, ↓hs_field, ↓hs_nilto, ↓hs_nilp, ↓hs_gTT, ↓hs_gFF, ↓hs_gTF, ↓hs_gFT, ↓hs_pickT, ↓hs_pickF, ↓hs_not, ↓hs_len, ↓hs_conv, ↓hs_ex0, ↓hs_ex1, ↓hs_add, ↓hs_sub, ↓hs_mul, ↓hs_eql, ↓hs_neq, ↓hs_lss, ↓hs_leq, ↓hs_gtr, ↓hs_geq, ↓oV_of (l0 _), ↓oV_of (l1 _), ↓oV_of (l2 _), ↓oV_of (l3 _), ↓oV_of (l4 _)]
    by_cases ck : g.k < p
    case neg =>
      rw [decide_eq_false ck]
      exact done false (iff_of_false (by simp) (fun h => ck ((hv.1 h).2)))
    rw [decide_eq_true ck]
    exact done true (iff_of_true rfl (hv.2 ⟨ce, ck⟩))
  refine oV_eq (vInt_eql _ _ _) ?_
  refine condK_dec (fun k5 => ?_) (fun k5 => ?_)
  · simp only [↓hs_some, ↓hs_fieldto, ↓hs_field, ↓hs_nilto, ↓hs_nilp, ↓hs_gTT, ↓hs_gFF, ↓hs_gTF, ↓hs_gFT, ↓hs_pickT, ↓hs_pickF, ↓hs_not, ↓hs_len, ↓hs_conv, ↓hs_ex0, ↓hs_ex1, ↓hs_add, ↓hs_sub, ↓hs_mul, ↓hs_eql, ↓hs_neq, ↓hs_lss, ↓hs_leq, ↓hs_gtr, ↓hs_geq, ↓oV_of (l1 _), ↓oV_of (l2 _), ↓oV_of (l3 _), ↓oV_of (l4 _), ↓oHeap_of (s1 _ _ _ _ _ _), ↓oHeap_of (s2 _ _ _ _ _ _), ↓oHeap_of (s3 _ _ _ _ _ _), ↓oHeap_of (s4k _ _ _ _ _ _)]
    refine ⟨l2 _, ?_⟩
    simp only [↓hs_some, ↓hs_fieldto, ↓hs_field, ↓hs_nilto, ↓hs_nilp, ↓hs_gTT, ↓hs_gFF, ↓hs_gTF, ↓hs_gFT, ↓hs_pickT, ↓hs_pickF, ↓hs_not, ↓hs_len, ↓hs_conv, ↓hs_ex0, ↓hs_ex1, ↓hs_add, ↓hs_sub, ↓hs_mul, ↓hs_eql, ↓hs_neq, ↓hs_lss, ↓hs_leq, ↓hs_gtr, ↓hs_geq, ↓oV_of (l1 _), ↓oV_of (l2 _), ↓oV_of (l3 _), ↓oV_of (l4 _), ↓oHeap_of (s1 _ _ _ _ _ _), ↓oHeap_of (s2 _ _ _ _ _ _), ↓oHeap_of (s3 _ _ _ _ _ _), ↓oHeap_of (s4k _ _ _ _ _ _), ↓oV_of (lv _), ↓oV_of (lb _ _ _ _ _), ↓oV_of (gate_eq _ _ _ _ _ _)]
    have hv : validGate p i g ↔ (g = ⟨g.kind, 0, g.a, 0, g.k⟩ ∧ g.k < p ∧ 0 ≤ g.a ∧ g.a < i) := by rw [gate_ext]; unfold validGate; omega
    by_cases ce : g = ⟨g.kind, 0, g.a, 0, g.k⟩
    case neg =>
      rw [decide_eq_false ce]
      exact done false (iff_of_false (by simp) (fun h => ce ((hv.1 h).1)))
    rw [decide_eq_true ce]
    simp only [↓hs_some, ↓hs_fieldto, ↓hs_field, ↓hs_nilto, ↓hs_nilp, ↓hs_gTT, ↓hs_gFF, ↓hs_gTF, ↓hs_gFT, ↓hs_pickT, ↓hs_pickF, ↓hs_not, ↓hs_len, ↓hs_conv, ↓hs_ex0, ↓hs_ex1, ↓hs_add, ↓hs_sub, ↓hs_mul, ↓hs_eql, ↓hs_neq, ↓hs_lss, ↓hs_leq, ↓hs_gtr, ↓hs_geq, ↓oV_of (l0 _), ↓oV_of (l1 _), ↓oV_of (l2 _), ↓oV_of (l3 _), ↓oV_of (l4 _)]
    by_cases ck : g.k < p
    case neg =>
      rw [decide_eq_false ck]
      exact done false (iff_of_false (by simp) (fun h => ck ((hv.1 h).2.1)))
    rw [decide_eq_true ck]
    simp only [↓hs_some, ↓hs_fieldto, ↓hs_field, ↓hs_nilto, ↓hs_nilp, ↓hs_gTT, ↓hs_gFF, ↓hs_gTF, ↓hs_gFT, ↓hs_pickT, ↓hs_pickF, ↓hs_not, ↓hs_len, ↓hs_conv, ↓hs_ex0, ↓hs_ex1, ↓hs_add, ↓hs_sub, ↓hs_mul, ↓hs_eql, ↓hs_neq, ↓hs_lss, ↓hs_leq, ↓hs_gtr, ↓hs_geq, ↓oV_of (l0 _), ↓oV_of (l1 _), ↓oV_of (l2 _), ↓oV_of (l3 _), ↓oV_of (l4 _)]
    by_cases ca0 : 0 ≤ g.a
    case neg =>
      rw [decide_eq_false ca0]
      exact done false (iff_of_false (by simp) (fun h => ca0 ((hv.1 h).2.2.1)))
    rw [decide_eq_true ca0]
    simp only [↓hs_some, ↓hs_fieldto, ↓hs_field, ↓hs_nilto, ↓hs_nilp, ↓hs_gTT, ↓hs_gFF, ↓hs_gTF, ↓hs_gFT, ↓hs_pickT, ↓hs_pickF, ↓hs_not, ↓hs_len, ↓hs_conv, ↓hs_ex0, ↓hs_ex1, ↓hs_add, ↓hs_sub, ↓hs_mul, ↓hs_eql, ↓hs_neq, ↓hs_lss, ↓hs_leq, ↓hs_gtr, ↓hs_geq, ↓oV_of (l0 _), ↓oV_of (l1 _), ↓oV_of (l2 _), ↓oV_of (l3 _), ↓oV_of (l4 _)]
    by_cases ca1 : g.a < i
    case neg =>
      rw [decide_eq_false ca1]
      exact done false (iff_of_false (by simp) (fun h => ca1 ((hv.1 h).2.2.2)))
    rw [decide_eq_true ca1]
    exact done true (iff_of_true rfl (hv.2 ⟨ce, ck, ca0, ca1⟩))
  refine oV_eq (vInt_eql _ _ _) ?_
  refine condK_dec (fun k3 => ?_) (fun k3 => ?_)
  · rw [decide_eq_true k3]
    refine condK_true ?_
    simp only [↓hs_some, ↓hs_fieldto, ↓hs_field, ↓hs_nilto, ↓hs_nilp, ↓hs_gTT, ↓hs_gFF, ↓hs_gTF, ↓hs_gFT, ↓hs_pickT, ↓hs_pickF, ↓hs_not, ↓hs_len, ↓hs_conv, ↓hs_ex0, ↓hs_ex1, ↓hs_add, ↓hs_sub, ↓hs_mul, ↓hs_eql, ↓hs_neq, ↓hs_lss, ↓hs_leq, ↓hs_gtr, ↓hs_geq, ↓oV_of (l1 _), ↓oV_of (l2 _), ↓oV_of (l3 _), ↓oV_of (l4 _), ↓oHeap_of (s1 _ _ _ _ _ _), ↓oHeap_of (s2 _ _ _ _ _ _), ↓oHeap_of (s3 _ _ _ _ _ _), ↓oHeap_of (s4k _ _ _ _ _ _)]
    refine ⟨l3 _, ?_⟩
    simp only [↓hs_some, ↓hs_fieldto, ↓hs_field, ↓hs_nilto, ↓hs_nilp, ↓hs_gTT, ↓hs_gFF, ↓hs_gTF, ↓hs_gFT, ↓hs_pickT, ↓hs_pickF, ↓hs_not, ↓hs_len, ↓hs_conv, ↓hs_ex0, ↓hs_ex1, ↓hs_add, ↓hs_sub, ↓hs_mul, ↓hs_eql, ↓hs_neq, ↓hs_lss, ↓hs_leq, ↓hs_gtr, ↓hs_geq, ↓oV_of (l1 _), ↓oV_of (l2 _), ↓oV_of (l3 _), ↓oV_of (l4 _), ↓oHeap_of (s1 _ _ _ _ _ _), ↓oHeap_of (s2 _ _ _ _ _ _), ↓oHeap_of (s3 _ _ _ _ _ _), ↓oHeap_of (s4k _ _ _ _ _ _), ↓oV_of (lv _), ↓oV_of (lb _ _ _ _ _), ↓oV_of (gate_eq _ _ _ _ _ _)]
    have hv : validGate p i g ↔ (g = ⟨g.kind, 0, g.a, g.b, 0⟩ ∧ 0 ≤ g.a ∧ g.a < i ∧ 0 ≤ g.b ∧ g.b < i) := by rw [gate_ext]; unfold validGate; omega
    by_cases ce : g = ⟨g.kind, 0, g.a, g.b, 0⟩
    case neg =>
      rw [decide_eq_false ce]
      exact done false (iff_of_false (by simp) (fun h => ce ((hv.1 h).1)))
    rw [decide_eq_true ce]
    simp only [↓hs_some, ↓hs_fieldto, ↓hs_field, ↓hs_nilto, ↓hs_nilp, ↓hs_gTT, ↓hs_gFF, ↓hs_gTF, ↓hs_gFT, ↓hs_pickT, ↓hs_pickF, ↓hs_not, ↓hs_len, ↓hs_conv, ↓hs_ex0, ↓hs_ex1, ↓hs_add, ↓hs_sub, ↓hs_mul, ↓hs_eql, ↓hs_neq, ↓hs_lss, ↓hs_leq, ↓hs_gtr, ↓hs_geq, ↓oV_of (l0 _), ↓oV_of (l1 _), ↓oV_of (l2 _), ↓oV_of (l3 _), ↓oV_of (l4 _)]
    by_cases ca0 : 0 ≤ g.a
    case neg =>
      rw [decide_eq_false ca0]
      exact done false (iff_of_false (by simp) (fun h => ca0 ((hv.1 h).2.1)))
    rw [decide_eq_true ca0]
    simp only [↓hs_some, ↓hs_fieldto, ↓hs_field, ↓hs_nilto, ↓hs_nilp, ↓hs_gTT, ↓hs_gFF, ↓hs_gTF, ↓hs_gFT, ↓hs_pickT, ↓hs_pickF, ↓hs_not, ↓hs_len, ↓hs_conv, ↓hs_ex0, ↓hs_ex1, ↓hs_add, ↓hs_sub, ↓hs_mul, ↓hs_eql, ↓hs_neq, ↓hs_lss, ↓hs_leq, ↓hs_gtr, ↓hs_geq, ↓oV_of (l0 _), ↓oV_of (l1 _), ↓oV_of (l2 _), ↓oV_of (l3 _), ↓oV_of (l4 _)]
    by_cases ca1 : g.a < i
    case neg =>
      rw [decide_eq_false ca1]
      exact done false (iff_of_false (by simp) (fun h => ca1 ((hv.1 h).2.2.1)))
    rw [decide_eq_true ca1]
    simp only [↓hs_some, ↓hs_fieldto, ↓hs_field, ↓hs_nilto, ↓hs_nilp, ↓hs_gTT, ↓hs_gFF, ↓hs_gTF, ↓hs_gFT, ↓hs_pickT, ↓hs_pickF, ↓hs_not, ↓hs_len, ↓hs_conv, ↓hs_ex0, ↓hs_ex1, ↓hs_add, ↓hs_sub, ↓hs_mul, ↓hs_eql, ↓hs_neq, ↓hs_lss, ↓hs_leq, ↓hs_gtr, ↓hs_geq, ↓oV_of (l0 _), ↓oV_of (l1 _), ↓oV_of (l2 _), ↓oV_of (l3 _), ↓oV_of (l4 _)]
    by_cases cb0 : 0 ≤ g.b
    case neg =>
      rw [decide_eq_false cb0]
      exact done false (iff_of_false (by simp) (fun h => cb0 ((hv.1 h).2.2.2.1)))
    rw [decide_eq_true cb0]
    simp only [↓hs_some, ↓hs_fieldto, ↓hs_field, ↓hs_nilto, ↓hs_nilp, ↓hs_gTT, ↓hs_gFF, ↓hs_gTF, ↓hs_gFT, ↓hs_pickT, ↓hs_pickF, ↓hs_not, ↓hs_len, ↓hs_conv, ↓hs_ex0, ↓hs_ex1, ↓hs_add, ↓hs_sub, ↓hs_mul, ↓hs_eql, ↓hs_neq, ↓hs_lss, ↓hs_leq, ↓hs_gtr, ↓hs_geq, ↓oV_of (l0 _), ↓oV_of (l1 _), ↓oV_of (l2 _), ↓oV_of (l3 _), ↓oV_of (l4 _)]
    by_cases cb1 : g.b < i
    case neg =>
      rw [decide_eq_false cb1]
      exact done false (iff_of_false (by simp) (fun h => cb1 ((hv.1 h).2.2.2.2)))
    rw [decide_eq_true cb1]
    exact done true (iff_of_true rfl (hv.2 ⟨ce, ca0, ca1, cb0, cb1⟩))
  refine oV_eq (vInt_eql _ _ _) ?_
  refine condK_dec (fun k4 => ?_) (fun k4 => ?_)
  · rw [decide_eq_true k4]
    refine condK_true ?_
    simp only [↓hs_some, ↓hs_fieldto, ↓hs_field, ↓hs_nilto, ↓hs_nilp, ↓hs_gTT, ↓hs_gFF, ↓hs_gTF, ↓hs_gFT, ↓hs_pickT, ↓hs_pickF, ↓hs_not, ↓hs_len, ↓hs_conv, ↓hs_ex0, ↓hs_ex1, ↓hs_add, ↓hs_sub, ↓hs_mul, ↓hs_eql, ↓hs_neq, ↓hs_lss, ↓hs_leq, ↓hs_gtr, ↓hs_geq, ↓oV_of (l1 _), ↓oV_of (l2 _), ↓oV_of (l3 _), ↓oV_of (l4 _), ↓oHeap_of (s1 _ _ _ _ _ _), ↓oHeap_of (s2 _ _ _ _ _ _), ↓oHeap_of (s3 _ _ _ _ _ _), ↓oHeap_of (s4k _ _ _ _ _ _)]
    refine ⟨l3 _, ?_⟩
    simp only [↓hs_some, ↓hs_fieldto, ↓hs_field, ↓hs_nilto, ↓hs_nilp, ↓hs_gTT, ↓hs_gFF, ↓hs_gTF, ↓hs_gFT, ↓hs_pickT, ↓hs_pickF, ↓hs_not, ↓hs_len, ↓hs_conv, ↓hs_ex0, ↓hs_ex1, ↓hs_add, ↓hs_sub, ↓hs_mul, ↓hs_eql, ↓hs_neq, ↓hs_lss, ↓hs_leq, ↓hs_gtr, ↓hs_geq, ↓oV_of (l1 _), ↓oV_of (l2 _), ↓oV_of (l3 _), ↓oV_of (l4 _), ↓oHeap_of (s1 _ _ _ _ _ _), ↓oHeap_of (s2 _ _ _ _ _ _), ↓oHeap_of (s3 _ _ _ _ _ _), ↓oHeap_of (s4k _ _ _ _ _ _), ↓oV_of (lv _), ↓oV_of (lb _ _ _ _ _), ↓oV_of (gate_eq _ _ _ _ _ _)]
    have hv : validGate p i g ↔ (g = ⟨g.kind, 0, g.a, g.b, 0⟩ ∧ 0 ≤ g.a ∧ g.a < i ∧ 0 ≤ g.b ∧ g.b < i) := by rw [gate_ext]; unfold validGate; omega
    by_cases ce : g = ⟨g.kind, 0, g.a, g.b, 0⟩
    case neg =>
      rw [decide_eq_false ce]
      exact done false (iff_of_false (by simp) (fun h => ce ((hv.1 h).1)))
    rw [decide_eq_true ce]
    simp only [↓hs_some, ↓hs_fieldto, ↓hs_field, ↓hs_nilto, ↓hs_nilp, ↓hs_gTT, ↓hs_gFF, ↓hs_gTF, ↓hs_gFT, ↓hs_pickT, ↓hs_pickF, ↓hs_not, ↓hs_len, ↓hs_conv, ↓hs_ex0, ↓hs_ex1, ↓hs_add, ↓hs_sub, ↓hs_mul, ↓hs_eql, ↓hs_neq, ↓hs_lss, ↓hs_leq, ↓hs_gtr, ↓hs_geq, ↓oV_of (l0 _), ↓oV_of (l1 _), ↓oV_of (l2 _), ↓oV_of (l3 _), ↓oV_of (l4 _)]
    by_cases ca0 : 0 ≤ g.a
    case neg =>
      rw [decide_eq_false ca0]
      exact done false (iff_of_false (by simp) (fun h => ca0 ((hv.1 h).2.1)))
    rw [decide_eq_true ca0]
    simp only [↓hs_some, ↓hs_fieldto, ↓hs_field, ↓hs_nilto, ↓hs_nilp, ↓hs_gTT, ↓hs_gFF, ↓hs_gTF, ↓hs_gFT, ↓hs_pickT, ↓hs_pickF, ↓hs_not, ↓hs_len, ↓hs_conv, ↓hs_ex0, ↓hs_ex1, ↓hs_add, ↓hs_sub, ↓hs_mul, ↓hs_eql, ↓hs_neq, ↓hs_lss, ↓hs_leq, ↓hs_gtr, ↓hs_geq, ↓oV_of (l0 _), ↓oV_of (l1 _), ↓oV_of (l2 _), ↓oV_of (l3 _), ↓oV_of (l4 _)]
    by_cases ca1 : g.a < i
    case neg =>
      rw [decide_eq_false ca1]
      exact done false (iff_of_false (by simp) (fun h => ca1 ((hv.1 h).2.2.1)))
    rw [decide_eq_true ca1]
    simp only [↓hs_some, ↓hs_fieldto, ↓hs_field, ↓hs_nilto, ↓hs_nilp, ↓hs_gTT, ↓hs_gFF, ↓hs_gTF, ↓hs_gFT, ↓hs_pickT, ↓hs_pickF, ↓hs_not, ↓hs_len, ↓hs_conv, ↓hs_ex0, ↓hs_ex1, ↓hs_add, ↓hs_sub, ↓hs_mul, ↓hs_eql, ↓hs_neq, ↓hs_lss, ↓hs_leq, ↓hs_gtr, ↓hs_geq, ↓oV_of (l0 _), ↓oV_of (l1 _), ↓oV_of (l2 _), ↓oV_of (l3 _), ↓oV_of (l4 _)]
    by_cases cb0 : 0 ≤ g.b
    case neg =>
      rw [decide_eq_false cb0]
      exact done false (iff_of_false (by simp) (fun h => cb0 ((hv.1 h).2.2.2.1)))
    rw [decide_eq_true cb0]
    simp only [↓hs_some, ↓hs_fieldto, ↓hs_field, ↓hs_nilto, ↓hs_nilp, ↓hs_gTT, ↓hs_gFF, ↓hs_gTF, ↓hs_gFT, ↓hs_pickT, ↓hs_pickF, ↓hs_not, ↓hs_len, ↓hs_conv, ↓hs_ex0, ↓hs_ex1, ↓hs_add, ↓hs_sub, ↓hs_mul, ↓hs_eql, ↓hs_neq, ↓hs_lss, ↓hs_leq, ↓hs_gtr, ↓hs_geq, ↓oV_of (l0 _), ↓oV_of (l1 _), ↓oV_of (l2 _), ↓oV_of (l3 _), ↓oV_of (l4 _)]
    by_cases cb1 : g.b < i
    case neg =>
      rw [decide_eq_false cb1]
      exact done false (iff_of_false (by simp) (fun h => cb1 ((hv.1 h).2.2.2.2)))
    rw [decide_eq_true cb1]
    exact done true (iff_of_true rfl (hv.2 ⟨ce, ca0, ca1, cb0, cb1⟩))
  refine oV_eq (vInt_eql _ _ _) ?_
  refine condK_dec (fun k6 => ?_) (fun k6 => ?_)
  · simp only [↓hs_some, ↓hs_fieldto, ↓hs_field, ↓hs_nilto, ↓hs_nilp, ↓hs_gTT, ↓hs_gFF, ↓hs_gTF, ↓hs_gFT, ↓hs_pickT, ↓hs_pickF, ↓hs_not, ↓hs_len, ↓hs_conv, ↓hs_ex0, ↓hs_ex1, ↓hs_add, ↓hs_sub, ↓hs_mul, ↓hs_eql, ↓hs_neq, ↓hs_lss, ↓hs_leq, ↓hs_gtr, ↓hs_geq, ↓oV_of (l1 _), ↓oV_of (l2 _), ↓oV_of (l3 _), ↓oV_of (l4 _), ↓oHeap_of (s1 _ _ _ _ _ _), ↓oHeap_of (s2 _ _ _ _ _ _), ↓oHeap_of (s3 _ _ _ _ _ _), ↓oHeap_of (s4k _ _ _ _ _ _)]
    refine ⟨l3 _, ?_⟩
    simp only [↓hs_some, ↓hs_fieldto, ↓hs_field, ↓hs_nilto, ↓hs_nilp, ↓hs_gTT, ↓hs_gFF, ↓hs_gTF, ↓hs_gFT, ↓hs_pickT, ↓hs_pickF, ↓hs_not, ↓hs_len, ↓hs_conv, ↓hs_ex0, ↓hs_ex1, ↓hs_add, ↓hs_sub, ↓hs_mul, ↓hs_eql, ↓hs_neq, ↓hs_lss, ↓hs_leq, ↓hs_gtr, ↓hs_geq, ↓oV_of (l1 _), ↓oV_of (l2 _), ↓oV_of (l3 _), ↓oV_of (l4 _), ↓oHeap_of (s1 _ _ _ _ _ _), ↓oHeap_of (s2 _ _ _ _ _ _), ↓oHeap_of (s3 _ _ _ _ _ _), ↓oHeap_of (s4k _ _ _ _ _ _), ↓oV_of (lv _), ↓oV_of (lb _ _ _ _ _), ↓oV_of (gate_eq _ _ _ _ _ _)]
    have hv : validGate p i g ↔ (g = ⟨g.kind, 0, g.a, g.b, 0⟩ ∧ 0 ≤ g.a ∧ g.a < i ∧ 0 ≤ g.b ∧ g.b < i) := by rw [gate_ext]; unfold validGate; omega
    by_cases ce : g = ⟨g.kind, 0, g.a, g.b, 0⟩
    case neg =>
      rw [decide_eq_false ce]
      exact done false (iff_of_false (by simp) (fun h => ce ((hv.1 h).1)))
    rw [decide_eq_true ce]
    simp only [↓hs_some, ↓hs_fieldto, ↓hs_field, ↓hs_nilto, ↓hs_nilp, ↓hs_gTT, ↓hs_gFF, ↓hs_gTF, ↓hs_gFT, ↓hs_pickT, ↓hs_pickF, ↓hs_not, ↓hs_len, ↓hs_conv, ↓hs_ex0, ↓hs_ex1, ↓hs_add, ↓hs_sub, ↓hs_mul, ↓hs_eql, ↓hs_neq, ↓hs_lss, ↓hs_leq, ↓hs_gtr, ↓hs_geq, ↓oV_of (l0 _), ↓oV_of (l1 _), ↓oV_of (l2 _), ↓oV_of (l3 _), ↓oV_of (l4 _)]
    by_cases ca0 : 0 ≤ g.a
    case neg =>
      rw [decide_eq_false ca0]
      exact done false (iff_of_false (by simp) (fun h => ca0 ((hv.1 h).2.1)))
    rw [decide_eq_true ca0]
    simp only [↓hs_some, ↓hs_fieldto, ↓hs_field, ↓hs_nilto, ↓hs_nilp, ↓hs_gTT, ↓hs_gFF, ↓hs_gTF, ↓hs_gFT, ↓hs_pickT, ↓hs_pickF, ↓hs_not, ↓hs_len, ↓hs_conv, ↓hs_ex0, ↓hs_ex1, ↓hs_add, ↓hs_sub, ↓hs_mul, ↓hs_eql, ↓hs_neq, ↓hs_lss, ↓hs_leq, ↓hs_gtr, ↓hs_geq, ↓oV_of (l0 _), ↓oV_of (l1 _), ↓oV_of (l2 _), ↓oV_of (l3 _), ↓oV_of (l4 _)]
    by_cases ca1 : g.a < i
    case neg =>
      rw [decide_eq_false ca1]
      exact done false (iff_of_false (by simp) (fun h => ca1 ((hv.1 h).2.2.1)))
    rw [decide_eq_true ca1]
    simp only [↓hs_some, ↓hs_fieldto, ↓hs_field, ↓hs_nilto, ↓hs_nilp, ↓hs_gTT, ↓hs_gFF, ↓hs_gTF, ↓hs_gFT, ↓hs_pickT, ↓hs_pickF, ↓hs_not, ↓hs_len, ↓hs_conv, ↓hs_ex0, ↓hs_ex1, ↓hs_add, ↓hs_sub, ↓hs_mul, ↓hs_eql, ↓hs_neq, ↓hs_lss, ↓hs_leq, ↓hs_gtr, ↓hs_geq, ↓oV_of (l0 _), ↓oV_of (l1 _), ↓oV_of (l2 _), ↓oV_of (l3 _), ↓oV_of (l4 _)]
    by_cases cb0 : 0 ≤ g.b
    case neg =>
      rw [decide_eq_false cb0]
      exact done false (iff_of_false (by simp) (fun h => cb0 ((hv.1 h).2.2.2.1)))
    rw [decide_eq_true cb0]
    simp only [↓hs_some, ↓hs_fieldto, ↓hs_field, ↓hs_nilto, ↓hs_nilp, ↓hs_gTT, ↓hs_gFF, ↓hs_gTF, ↓hs_gFT, ↓hs_pickT, ↓hs_pickF, ↓hs_not, ↓hs_len, ↓hs_conv, ↓hs_ex0, ↓hs_ex1, ↓hs_add, ↓hs_sub, ↓hs_mul, ↓hs_eql, ↓hs_neq, ↓hs_lss, ↓hs_leq, ↓hs_gtr, ↓hs_geq, ↓oV_of (l0 _), ↓oV_of (l1 _), ↓oV_of (l2 _), ↓oV_of (l3 _), ↓oV_of (l4 _)]
    by_cases cb1 : g.b < i
    case neg =>
      rw [decide_eq_false cb1]
      exact done false (iff_of_false (by simp) (fun h => cb1 ((hv.1 h).2.2.2.2)))
    rw [decide_eq_true cb1]
    exact done true (iff_of_true rfl (hv.2 ⟨ce, ca0, ca1, cb0, cb1⟩))
  · exact done false (by unfold validGate; simp only [Bool.false_eq_true, false_iff]; omega)
end Go.Proofs.YtpbaoefjkfdgmaaDoor.SL
