/- Which parameters, coalitions and scenarios are valid: the program's answer and the reference's, exactly. -/
import Derived.Test.YtchhpagkdaaglaaDoorAdvC
set_option linter.unusedVariables false
set_option linter.unusedSimpArgs false
namespace Go.Proofs.YtchhpagkdaaglaaDoor.SL
open Go

/-- What is laid in the package's variable. -/
structure GL (H : Heap) : Prop where
  g0 : ∃ n e w, H 0 = some (.cells [.int .i64 5, .int .i64 7, .int .i64 13, .int .i64 17, .int .i64 19, .int .i64 31, .int .i64 61] n e w)
theorem GL.mono {H G : Heap} (h : GL H) (hl : Le H G) : GL G := by
  obtain ⟨n, e, w, h0⟩ := h.g0
  exact ⟨n, e, w, hl _ _ h0⟩
theorem fexponent_spec {H : Heap} (hg : GL H) (p : Int) : RCalls Tryd.prog 148 [.int .u64 p] H (Val (.int .i64 (expo p)) H) := by
  apply call148
  unfold m148 m148_2
  obtain ⟨n, e, w, h1⟩ := hg.g0
  have ld : vLoad ty182 (.pointer (some ⟨0, 0, none⟩)) H = some (.agg #[.int .i64 5, .int .i64 7, .int .i64 13, .int .i64 17, .int .i64 19, .int .i64 31, .int .i64 61]) := by
    simp only [vLoad, h1]
    rfl
  refine oV_eq ld ?_
  apply L148_3_round
  unfold m148_4
  refine oV_eq (v := .bool true) rfl (condK_true (oV_eq (v := .int .i64 5) rfl (oV_eq (v := .int .u64 32) rfl (oV_eq (v := .int .u64 31) rfl (oV_eq (vInt_eql _ _ _) (condK_dec (fun h => ⟨by rw [h]; rfl, rfl⟩) (fun c0 => oV_eq (v := .int .i64 1) rfl ?_)))))))
  apply L148_3_round
  unfold m148_4
  refine oV_eq (v := .bool true) rfl (condK_true (oV_eq (v := .int .i64 7) rfl (oV_eq (v := .int .u64 128) rfl (oV_eq (v := .int .u64 127) rfl (oV_eq (vInt_eql _ _ _) (condK_dec (fun h => ⟨by rw [h]; rfl, rfl⟩) (fun c1 => oV_eq (v := .int .i64 2) rfl ?_)))))))
  apply L148_3_round
  unfold m148_4
  refine oV_eq (v := .bool true) rfl (condK_true (oV_eq (v := .int .i64 13) rfl (oV_eq (v := .int .u64 8192) rfl (oV_eq (v := .int .u64 8191) rfl (oV_eq (vInt_eql _ _ _) (condK_dec (fun h => ⟨by rw [h]; rfl, rfl⟩) (fun c2 => oV_eq (v := .int .i64 3) rfl ?_)))))))
  apply L148_3_round
  unfold m148_4
  refine oV_eq (v := .bool true) rfl (condK_true (oV_eq (v := .int .i64 17) rfl (oV_eq (v := .int .u64 131072) rfl (oV_eq (v := .int .u64 131071) rfl (oV_eq (vInt_eql _ _ _) (condK_dec (fun h => ⟨by rw [h]; rfl, rfl⟩) (fun c3 => oV_eq (v := .int .i64 4) rfl ?_)))))))
  apply L148_3_round
  unfold m148_4
  refine oV_eq (v := .bool true) rfl (condK_true (oV_eq (v := .int .i64 19) rfl (oV_eq (v := .int .u64 524288) rfl (oV_eq (v := .int .u64 524287) rfl (oV_eq (vInt_eql _ _ _) (condK_dec (fun h => ⟨by rw [h]; rfl, rfl⟩) (fun c4 => oV_eq (v := .int .i64 5) rfl ?_)))))))
  apply L148_3_round
  unfold m148_4
  refine oV_eq (v := .bool true) rfl (condK_true (oV_eq (v := .int .i64 31) rfl (oV_eq (v := .int .u64 2147483648) rfl (oV_eq (v := .int .u64 2147483647) rfl (oV_eq (vInt_eql _ _ _) (condK_dec (fun h => ⟨by rw [h]; rfl, rfl⟩) (fun c5 => oV_eq (v := .int .i64 6) rfl ?_)))))))
  apply L148_3_round
  unfold m148_4
  refine oV_eq (v := .bool true) rfl (condK_true (oV_eq (v := .int .i64 61) rfl (oV_eq (v := .int .u64 2305843009213693952) rfl (oV_eq (v := .int .u64 2305843009213693951) rfl (oV_eq (vInt_eql _ _ _) (condK_dec (fun h => ⟨by rw [h]; rfl, rfl⟩) (fun c6 => oV_eq (v := .int .i64 7) rfl ?_)))))))
  apply L148_3_round
  unfold m148_4
  refine oV_eq (v := .bool false) rfl (condK_false ?_)
  unfold m148_1
  exact ⟨by simp [expo, *], rfl⟩
theorem fsupported_spec {H : Heap} (hg : GL H) (p : Int) : RCalls Tryd.prog 140 [.int .u64 p] H (Val (.bool (decide (Supp p))) H) := by
  apply call140
  unfold m140
  refine oRC_val (fexponent_spec hg p) (oV_eq (vInt_neq _ _ _) ⟨?_, rfl⟩)
  congr 1
  refine decide_eq_decide.2 ((?_ : expo p ≠ 0 ↔ 0 < expo p).trans (expo_pos p))
  have : 0 ≤ expo p := by unfold expo; repeat' split <;> omega
  omega
theorem oCl_ret {X : Externs} {P : Program} {fid : FuncId} {first cap : Array Value} {args : List Value} {H : Heap} {p : List PanicEntry → Heap → Prop} {k : Value → Heap → Prop} {R : Value → Heap → Prop} (hx : X fid = none) (h : RCalls P fid (first.toList ++ args ++ cap.toList) H (Ret R)) (hk : ∀ v H', R v H' → k v H') :
    oCl X P (.func (.func fid) first cap) args H p k := by
  have := oRC_ret (p := p) h hk
  unfold oCl oCall
  simp only [hx]
  exact this
/-- It gives a bool: whether P. -/
def Dec (P : Prop) (H : Heap) : Ending → Heap → Prop := Ret fun v H' => Le H H' ∧ ∃ b : Bool, v = .bool b ∧ (b = true ↔ P)
theorem dec_no {P : Prop} {H H' : Heap} (hl : Le H H') (h : ¬ P) : Dec P H (.returned (.bool false)) H' := ⟨hl, false, rfl, ⟨fun e => (by cases e), fun e => absurd e h⟩⟩
theorem dec_yes {P : Prop} {H H' : Heap} (hl : Le H H') (h : P) : Dec P H (.returned (.bool true)) H' := ⟨hl, true, rfl, ⟨fun _ => h, fun _ => rfl⟩⟩
theorem dec_dec {P C : Prop} [Decidable C] {H H' : Heap} (hl : Le H H') (h : C ↔ P) : Dec P H (.returned (.bool (decide C))) H' := ⟨hl, _, rfl, by rw [decide_eq_true_iff]; exact h⟩
/-! ### Below -/
theorem below_spec {H : Heap} {p : Int} {v : Value} {ws : List Int} (hv : Sl (eInt .u64) H v ws) : RCalls Tryd.prog 65 [.int .u64 p, v] H (Dec (∀ x ∈ ws, x < p) H) := by
  have hm := hv.max
  apply call65
  unfold m65 m65_2
  have key : ∀ (d i : Nat), ws.length - i = d → i ≤ ws.length → (∀ x ∈ ws.take i, x < p) → L65_3 (.int .u64 p) v (.int .i64 i) H (fun H_7 => m65_1 H_7 (Dec (∀ x ∈ ws, x < p) H)) (Dec (∀ x ∈ ws, x < p) H) := by
    intro d
    induction d with
    | zero =>
      intro i hd hi ha
      apply L65_3_round
      unfold m65_4
      refine oV_eq hv.len (oV_eq (vInt_lss _ _ _) (condK_dec (fun hlt => absurd hlt (by omega)) (fun _ => ?_)))
      unfold m65_1
      rw [List.take_of_length_le (by omega)] at ha
      exact dec_yes (Le.refl _) ha
    | succ d ih =>
      intro i hd hi ha
      apply L65_3_round
      unfold m65_4
      refine oV_eq hv.len (oV_eq (vInt_lss _ _ _) (condK_dec (fun hlt => ?_) (fun hlt => absurd (by omega) hlt)))
      have hil : i < ws.length := by omega
      obtain ⟨q, f1, f2⟩ := hv.int .i64 (i := (i : Int)) (by omega) (by omega) (ti := ty22) rfl
      have e : ws.getD (i : Int).toNat 0 = ws[i] := by simp [hil]
      rw [e] at f2
      refine oV_eq f1 (oV_eq f2 (oV_eq (vInt_geq _ _ _) (condK_dec (fun c => dec_no (Le.refl _) fun h => ?_) (fun c => oV_eq (vInt_add _ _ _) ?_))))
      · have := h _ (List.getElem_mem hil)
        omega
      rw [wrap_i64 (by omega) (by omega)]
      refine ih (i + 1) (by omega) (by omega) fun x hx => ?_
      rw [List.take_succ_eq_append_getElem hil] at hx
      rcases List.mem_append.1 hx with hx | hx
      · exact ha x hx
      · rw [List.mem_singleton.1 hx]
        omega
  exact key _ 0 rfl (by omega) (by simp)
/-! ### Parameters -/
structure PAt (H : Heap) (i : Nat) (s : Scn) : Prop where
  blk : H i = some (.cells [.int .u64 s.P, .int .i64 s.N, .int .i64 s.T] 3 24 true)
def parOk (s : Scn) : Prop := Supp s.P ∧ 4 ≤ s.N ∧ s.N ≤ 13 ∧ s.N < s.P ∧ 1 ≤ s.T ∧ s.T < s.N ∧ 3 * s.T < s.N
section
variable {H G : Heap} {i : Nat} {s : Scn}
theorem PAt.mono (h : PAt H i s) (hl : Le H G) : PAt G i s := ⟨hl _ _ h.blk⟩
theorem PAt.p (h : PAt H i s) : vLoad ty22 (.pointer (some ⟨i, 0, none⟩)) H = some (.int .u64 s.P) := by simp only [vLoad, h.blk]; rfl
theorem PAt.n (h : PAt H i s) : vLoad ty3 (.pointer (some ⟨i, 1, none⟩)) H = some (.int .i64 s.N) := by simp only [vLoad, h.blk]; rfl
theorem PAt.t (h : PAt H i s) : vLoad ty3 (.pointer (some ⟨i, 2, none⟩)) H = some (.int .i64 s.T) := by simp only [vLoad, h.blk]; rfl
theorem PAt.all (h : PAt H i s) : vLoad ty24 (ptrTo i) H = some (parVal s) := by simp only [vLoad, ptrTo, h.blk]; rfl
theorem par_new {k : Nat → Heap → Prop} (s : Scn) (hk : ∀ i H', Le H H' → PAt H' i s → k i H') : oNew (parVal s).cells.toList (parVal s).cells.toList.length 24 H k := by
  show oNew [.int .u64 s.P, .int .i64 s.N, .int .i64 s.T] 3 24 H _
  intro i hi
  exact hk i _ (Le.ins _ hi) ⟨hins_self _ _ _⟩

theorem valid_spec (H : Heap) (s : Scn) : RCalls Tryd.prog 90 [parVal s] H (Dec (parOk s) H) := by
  apply call90
  unfold m90
  refine par_new s fun i H1 l1 hs => ?_
  refine oV_eq (vField_to _ _) (oV_eq hs.p (oRC_grow (supported_spec H1 s.P) fun H2 l2 => ?_))
  replace hs := hs.mono l2
  have l := l1.trans l2
  by_cases hp : Supp s.P
  case neg =>
    rw [decide_eq_false hp]
    exact dec_no l fun h => hp h.1
  rw [decide_eq_true hp]
  refine oV_eq (v := .pointer (some ⟨i, 1, none⟩)) rfl (oV_eq (v := .int .i64 s.N) hs.n (oV_eq (v := .bool (decide (4 ≤ s.N))) (vInt_geq .i64 s.N 4) (oV_eq (v := .bool (decide (4 ≤ s.N))) rfl ?_)))
  by_cases c1 : 4 ≤ s.N
  case neg =>
    rw [decide_eq_false c1]
    exact dec_no l (fun h => by obtain ⟨_, h1, h2, h3, h4, h5, h6⟩ := h; omega)
  rw [decide_eq_true c1]
  refine oV_eq (v := .pointer (some ⟨i, 1, none⟩)) rfl (oV_eq (v := .int .i64 s.N) hs.n (oV_eq (v := .bool (decide (s.N ≤ 13))) (vInt_leq .i64 s.N 13) (oV_eq (v := .bool (decide (s.N ≤ 13))) rfl ?_)))
  by_cases c2 : s.N ≤ 13
  case neg =>
    rw [decide_eq_false c2]
    exact dec_no l (fun h => by obtain ⟨_, h1, h2, h3, h4, h5, h6⟩ := h; omega)
  rw [decide_eq_true c2]
  have wN : vConv (.int .u64) (.int .i64 s.N) = some (.int .u64 s.N) := by rw [vConv_int, wrap_u64 (by omega) (by omega)]
  refine oV_eq (v := .pointer (some ⟨i, 1, none⟩)) rfl (oV_eq (v := .int .i64 s.N) hs.n (oV_eq (v := .int .u64 s.N) wN (oV_eq (v := .pointer (some ⟨i, 0, none⟩)) rfl (oV_eq (v := .int .u64 s.P) hs.p (oV_eq (v := .bool (decide (s.N < s.P))) (vInt_lss .u64 s.N s.P) (oV_eq (v := .bool (decide (s.N < s.P))) rfl ?_))))))
  by_cases c3 : s.N < s.P
  case neg =>
    rw [decide_eq_false c3]
    exact dec_no l (fun h => by obtain ⟨_, h1, h2, h3, h4, h5, h6⟩ := h; omega)
  rw [decide_eq_true c3]
  refine oV_eq (v := .pointer (some ⟨i, 2, none⟩)) rfl (oV_eq (v := .int .i64 s.T) hs.t (oV_eq (v := .bool (decide (1 ≤ s.T))) (vInt_geq .i64 s.T 1) (oV_eq (v := .bool (decide (1 ≤ s.T))) rfl ?_)))
  by_cases c4 : 1 ≤ s.T
  case neg =>
    rw [decide_eq_false c4]
    exact dec_no l (fun h => by obtain ⟨_, h1, h2, h3, h4, h5, h6⟩ := h; omega)
  rw [decide_eq_true c4]
  refine oV_eq (v := .pointer (some ⟨i, 2, none⟩)) rfl (oV_eq (v := .int .i64 s.T) hs.t (oV_eq (v := .pointer (some ⟨i, 1, none⟩)) rfl (oV_eq (v := .int .i64 s.N) hs.n (oV_eq (v := .bool (decide (s.T < s.N))) (vInt_lss .i64 s.T s.N) (oV_eq (v := .bool (decide (s.T < s.N))) rfl ?_)))))
  by_cases c5 : s.T < s.N
  case neg =>
    rw [decide_eq_false c5]
    exact dec_no l (fun h => by obtain ⟨_, h1, h2, h3, h4, h5, h6⟩ := h; omega)
  rw [decide_eq_true c5]
  have wT : vInt .mul (.int .i64 3) (.int .i64 s.T) = some (.int .i64 (3 * s.T)) := by rw [vInt_mul, wrap_i64 (by omega) (by omega)]
  refine oV_eq (v := .pointer (some ⟨i, 2, none⟩)) rfl (oV_eq (v := .int .i64 s.T) hs.t (oV_eq (v := .int .i64 (3 * s.T)) wT (oV_eq (v := .pointer (some ⟨i, 1, none⟩)) rfl (oV_eq (v := .int .i64 s.N) hs.n (oV_eq (v := .bool (decide (3 * s.T < s.N))) (vInt_lss .i64 (3 * s.T) s.N) (oV_eq (v := .bool (decide (3 * s.T < s.N))) rfl ?_))))))
  exact dec_dec l ⟨fun h => ⟨hp, c1, c2, c3, c4, c5, h⟩, fun h => h.2.2.2.2.2.2⟩
theorem pvalid_spec (H : Heap) (s : Scn) (hG : GL H) : RCalls Tryd.prog 112 [parVal s] H (Dec (parOk s) H) := by
  apply call112
  unfold m112
  refine par_new s fun i H1 l1 hs => ?_
  refine oV_eq (vField_to _ _) (oV_eq hs.p (oRC_val (fsupported_spec (hG.mono l1) s.P) ?_))
  have l := l1
  by_cases hp : Supp s.P
  case neg =>
    rw [decide_eq_false hp]
    exact dec_no l fun h => hp h.1
  rw [decide_eq_true hp]
  refine oV_eq (v := .pointer (some ⟨i, 1, none⟩)) rfl (oV_eq (v := .int .i64 s.N) hs.n (oV_eq (v := .bool (decide (4 ≤ s.N))) (vInt_geq .i64 s.N 4) (oV_eq (v := .bool (decide (4 ≤ s.N))) rfl ?_)))
  by_cases c1 : 4 ≤ s.N
  case neg =>
    rw [decide_eq_false c1]
    exact dec_no l (fun h => by obtain ⟨_, h1, h2, h3, h4, h5, h6⟩ := h; omega)
  rw [decide_eq_true c1]
  refine oV_eq (v := .pointer (some ⟨i, 1, none⟩)) rfl (oV_eq (v := .int .i64 s.N) hs.n (oV_eq (v := .bool (decide (s.N ≤ 13))) (vInt_leq .i64 s.N 13) (oV_eq (v := .bool (decide (s.N ≤ 13))) rfl ?_)))
  by_cases c2 : s.N ≤ 13
  case neg =>
    rw [decide_eq_false c2]
    exact dec_no l (fun h => by obtain ⟨_, h1, h2, h3, h4, h5, h6⟩ := h; omega)
  rw [decide_eq_true c2]
  have wN : vConv (.int .u64) (.int .i64 s.N) = some (.int .u64 s.N) := by rw [vConv_int, wrap_u64 (by omega) (by omega)]
  refine oV_eq (v := .pointer (some ⟨i, 1, none⟩)) rfl (oV_eq (v := .int .i64 s.N) hs.n (oV_eq (v := .int .u64 s.N) wN (oV_eq (v := .pointer (some ⟨i, 0, none⟩)) rfl (oV_eq (v := .int .u64 s.P) hs.p (oV_eq (v := .bool (decide (s.N < s.P))) (vInt_lss .u64 s.N s.P) (oV_eq (v := .bool (decide (s.N < s.P))) rfl ?_))))))
  by_cases c3 : s.N < s.P
  case neg =>
    rw [decide_eq_false c3]
    exact dec_no l (fun h => by obtain ⟨_, h1, h2, h3, h4, h5, h6⟩ := h; omega)
  rw [decide_eq_true c3]
  refine oV_eq (v := .pointer (some ⟨i, 2, none⟩)) rfl (oV_eq (v := .int .i64 s.T) hs.t (oV_eq (v := .bool (decide (1 ≤ s.T))) (vInt_geq .i64 s.T 1) (oV_eq (v := .bool (decide (1 ≤ s.T))) rfl ?_)))
  by_cases c4 : 1 ≤ s.T
  case neg =>
    rw [decide_eq_false c4]
    exact dec_no l (fun h => by obtain ⟨_, h1, h2, h3, h4, h5, h6⟩ := h; omega)
  rw [decide_eq_true c4]
  refine oV_eq (v := .pointer (some ⟨i, 2, none⟩)) rfl (oV_eq (v := .int .i64 s.T) hs.t (oV_eq (v := .pointer (some ⟨i, 1, none⟩)) rfl (oV_eq (v := .int .i64 s.N) hs.n (oV_eq (v := .bool (decide (s.T < s.N))) (vInt_lss .i64 s.T s.N) (oV_eq (v := .bool (decide (s.T < s.N))) rfl ?_)))))
  by_cases c5 : s.T < s.N
  case neg =>
    rw [decide_eq_false c5]
    exact dec_no l (fun h => by obtain ⟨_, h1, h2, h3, h4, h5, h6⟩ := h; omega)
  rw [decide_eq_true c5]
  have wT : vInt .mul (.int .i64 3) (.int .i64 s.T) = some (.int .i64 (3 * s.T)) := by rw [vInt_mul, wrap_i64 (by omega) (by omega)]
  refine oV_eq (v := .pointer (some ⟨i, 2, none⟩)) rfl (oV_eq (v := .int .i64 s.T) hs.t (oV_eq (v := .int .i64 (3 * s.T)) wT (oV_eq (v := .pointer (some ⟨i, 1, none⟩)) rfl (oV_eq (v := .int .i64 s.N) hs.n (oV_eq (v := .bool (decide (3 * s.T < s.N))) (vInt_lss .i64 (3 * s.T) s.N) (oV_eq (v := .bool (decide (3 * s.T < s.N))) rfl ?_))))))
  exact dec_dec l ⟨fun h => ⟨hp, c1, c2, c3, c4, c5, h⟩, fun h => h.2.2.2.2.2.2⟩
def devOk (N : Int) (d : Dev) : Prop := 0 ≤ d.rd ∧ DevOk N d
theorem dev_spec (H : Heap) (s : Scn) (d : Dev) (hk0 : 0 ≤ d.k) (hk1 : d.k ≤ 18446744073709551615) : RCalls Tryd.prog 92 [parVal s, d.val] H (Dec (devOk s.N d) H) := by
  apply call92
  unfold m92
  refine par_new s fun i1 H1 l1 hs1 => ?_
  refine dev_new d fun i2 H2 l2 hd => ?_
  have hs := hs1.mono l2
  have l := l1.trans l2
  refine oV_eq (vField_to _ _) (oV_eq hd.l0 (oV_eq (v := .bool (decide (0 ≤ d.rd))) (vInt_geq .i64 d.rd 0) ?_))
  by_cases c0 : 0 ≤ d.rd
  case neg =>
    rw [decide_eq_false c0]
    exact dec_no l (fun h => by obtain ⟨h1, h2, h3, h4, h5, h6, h7, h8, h9, h10, h11, h12, h13⟩ := h.2; have h0 := h.1; omega)
  rw [decide_eq_true c0]
  refine oV_eq (v := .pointer (some ⟨i2, 3, none⟩)) rfl (oV_eq (v := .int .i64 d.at_) hd.l3 (oV_eq (v := .bool (decide (0 ≤ d.at_))) (vInt_geq .i64 d.at_ 0) (oV_eq (v := .bool (decide (0 ≤ d.at_))) rfl ?_)))
  by_cases c1 : 0 ≤ d.at_
  case neg =>
    rw [decide_eq_false c1]
    exact dec_no l (fun h => by obtain ⟨h1, h2, h3, h4, h5, h6, h7, h8, h9, h10, h11, h12, h13⟩ := h.2; have h0 := h.1; omega)
  rw [decide_eq_true c1]
  refine oV_eq (v := .pointer (some ⟨i2, 7, none⟩)) rfl (oV_eq (v := .int .i64 d.src) hd.l7 (oV_eq (v := .bool (decide (0 ≤ d.src))) (vInt_geq .i64 d.src 0) (oV_eq (v := .bool (decide (0 ≤ d.src))) rfl ?_)))
  by_cases c2 : 0 ≤ d.src
  case neg =>
    rw [decide_eq_false c2]
    exact dec_no l (fun h => by obtain ⟨h1, h2, h3, h4, h5, h6, h7, h8, h9, h10, h11, h12, h13⟩ := h.2; have h0 := h.1; omega)
  rw [decide_eq_true c2]
  refine oV_eq (v := .pointer (some ⟨i2, 1, none⟩)) rfl (oV_eq (v := .int .i64 d.fr) hd.l1 (oV_eq (v := .bool (decide (1 ≤ d.fr))) (vInt_geq .i64 d.fr 1) (oV_eq (v := .bool (decide (1 ≤ d.fr))) rfl ?_)))
  by_cases c3 : 1 ≤ d.fr
  case neg =>
    rw [decide_eq_false c3]
    exact dec_no l (fun h => by obtain ⟨h1, h2, h3, h4, h5, h6, h7, h8, h9, h10, h11, h12, h13⟩ := h.2; have h0 := h.1; omega)
  rw [decide_eq_true c3]
  refine oV_eq (v := .pointer (some ⟨i2, 1, none⟩)) rfl (oV_eq (v := .int .i64 d.fr) hd.l1 (oV_eq (v := .pointer (some ⟨i1, 1, none⟩)) rfl (oV_eq (v := .int .i64 s.N) hs.n (oV_eq (v := .bool (decide (d.fr ≤ s.N))) (vInt_leq .i64 d.fr s.N) (oV_eq (v := .bool (decide (d.fr ≤ s.N))) rfl ?_)))))
  by_cases c4 : d.fr ≤ s.N
  case neg =>
    rw [decide_eq_false c4]
    exact dec_no l (fun h => by obtain ⟨h1, h2, h3, h4, h5, h6, h7, h8, h9, h10, h11, h12, h13⟩ := h.2; have h0 := h.1; omega)
  rw [decide_eq_true c4]
  refine oV_eq (v := .pointer (some ⟨i2, 2, none⟩)) rfl (oV_eq (v := .int .i64 d.to_) hd.l2 (oV_eq (v := .bool (decide (0 ≤ d.to_))) (vInt_geq .i64 d.to_ 0) (oV_eq (v := .bool (decide (0 ≤ d.to_))) rfl ?_)))
  by_cases c5 : 0 ≤ d.to_
  case neg =>
    rw [decide_eq_false c5]
    exact dec_no l (fun h => by obtain ⟨h1, h2, h3, h4, h5, h6, h7, h8, h9, h10, h11, h12, h13⟩ := h.2; have h0 := h.1; omega)
  rw [decide_eq_true c5]
  refine oV_eq (v := .pointer (some ⟨i2, 2, none⟩)) rfl (oV_eq (v := .int .i64 d.to_) hd.l2 (oV_eq (v := .pointer (some ⟨i1, 1, none⟩)) rfl (oV_eq (v := .int .i64 s.N) hs.n (oV_eq (v := .bool (decide (d.to_ ≤ s.N))) (vInt_leq .i64 d.to_ s.N) (oV_eq (v := .bool (decide (d.to_ ≤ s.N))) rfl ?_)))))
  by_cases c6 : d.to_ ≤ s.N
  case neg =>
    rw [decide_eq_false c6]
    exact dec_no l (fun h => by obtain ⟨h1, h2, h3, h4, h5, h6, h7, h8, h9, h10, h11, h12, h13⟩ := h.2; have h0 := h.1; omega)
  rw [decide_eq_true c6]
  refine oV_eq (v := .pointer (some ⟨i2, 4, none⟩)) rfl (oV_eq (v := .int .i64 d.kd) hd.l4 (oV_eq (v := .bool (decide (1 ≤ d.kd))) (vInt_geq .i64 d.kd 1) (oV_eq (v := .bool (decide (1 ≤ d.kd))) rfl ?_)))
  by_cases c7 : 1 ≤ d.kd
  case neg =>
    rw [decide_eq_false c7]
    exact dec_no l (fun h => by obtain ⟨h1, h2, h3, h4, h5, h6, h7, h8, h9, h10, h11, h12, h13⟩ := h.2; have h0 := h.1; omega)
  rw [decide_eq_true c7]
  refine oV_eq (v := .pointer (some ⟨i2, 4, none⟩)) rfl (oV_eq (v := .int .i64 d.kd) hd.l4 (oV_eq (v := .bool (decide (d.kd ≤ 4))) (vInt_leq .i64 d.kd 4) (oV_eq (v := .bool (decide (d.kd ≤ 4))) rfl ?_)))
  by_cases c8 : d.kd ≤ 4
  case neg =>
    rw [decide_eq_false c8]
    exact dec_no l (fun h => by obtain ⟨h1, h2, h3, h4, h5, h6, h7, h8, h9, h10, h11, h12, h13⟩ := h.2; have h0 := h.1; omega)
  rw [decide_eq_true c8]
  refine oV_eq (v := .pointer (some ⟨i2, 6, none⟩)) rfl (oV_eq (v := .int .i64 d.of_) hd.l6 (oV_eq (v := .bool (decide (0 ≤ d.of_))) (vInt_geq .i64 d.of_ 0) (oV_eq (v := .bool (decide (0 ≤ d.of_))) rfl ?_)))
  by_cases c9 : 0 ≤ d.of_
  case neg =>
    rw [decide_eq_false c9]
    exact dec_no l (fun h => by obtain ⟨h1, h2, h3, h4, h5, h6, h7, h8, h9, h10, h11, h12, h13⟩ := h.2; have h0 := h.1; omega)
  rw [decide_eq_true c9]
  refine oV_eq (v := .pointer (some ⟨i2, 6, none⟩)) rfl (oV_eq (v := .int .i64 d.of_) hd.l6 (oV_eq (v := .pointer (some ⟨i1, 1, none⟩)) rfl (oV_eq (v := .int .i64 s.N) hs.n (oV_eq (v := .bool (decide (d.of_ ≤ s.N))) (vInt_leq .i64 d.of_ s.N) (oV_eq (v := .bool (decide (d.of_ ≤ s.N))) rfl ?_)))))
  by_cases c10 : d.of_ ≤ s.N
  case neg =>
    rw [decide_eq_false c10]
    exact dec_no l (fun h => by obtain ⟨h1, h2, h3, h4, h5, h6, h7, h8, h9, h10, h11, h12, h13⟩ := h.2; have h0 := h.1; omega)
  rw [decide_eq_true c10]
  refine oV_eq (v := .pointer (some ⟨i2, 4, none⟩)) rfl (oV_eq (v := .int .i64 d.kd) hd.l4 (oV_eq (v := .bool (decide (d.kd ≠ 3))) (vInt_neq .i64 d.kd 3) (oV_eq (v := .bool (decide (d.kd ≠ 3))) rfl ?_)))
  by_cases c11 : d.kd ≠ 3
  case pos =>
    rw [decide_eq_true c11]
    exact dec_yes l ⟨c0, c1, c2, c3, c4, c5, c6, c7, c8, c9, c10, fun h => absurd h c11, hk0, hk1⟩
  rw [decide_eq_false c11]
  refine oV_eq (v := .pointer (some ⟨i2, 6, none⟩)) rfl (oV_eq (v := .int .i64 d.of_) hd.l6 (oV_eq (v := .bool (decide (1 ≤ d.of_))) (vInt_geq .i64 d.of_ 1) (oV_eq (v := .bool (decide (1 ≤ d.of_))) rfl (oV_eq (v := .bool (decide (1 ≤ d.of_))) rfl ?_))))
  exact dec_dec l ⟨fun h => ⟨c0, c1, c2, c3, c4, c5, c6, c7, c8, c9, c10, fun _ => h, hk0, hk1⟩, fun h => h.2.of3 (by omega)⟩
theorem lie_spec (H : Heap) (s : Scn) (d : Dev) (hk0 : 0 ≤ d.k) (hk1 : d.k ≤ 18446744073709551615) : RCalls Tryd.prog 85 [parVal s, d.val] H (Dec (devOk s.N d) H) := by
  apply call85
  unfold m85
  refine par_new s fun i1 H1 l1 hs1 => ?_
  refine dev_new d fun i2 H2 l2 hd => ?_
  have hs := hs1.mono l2
  have l := l1.trans l2
  refine oV_eq (vField_to _ _) (oV_eq hd.l4 (oV_eq (vInt_eql _ _ _) (condK_dec (fun k3 => ?_) (fun k3 => ?_))))
  · skip
    refine oV_eq (vField_to _ _) (oV_eq hd.l0 (oV_eq (v := .bool (decide (0 ≤ d.rd))) (vInt_geq .i64 d.rd 0) ?_))
    by_cases c0 : 0 ≤ d.rd
    case neg =>
      rw [decide_eq_false c0]
      exact dec_no l (fun h => by obtain ⟨h1, h2, h3, h4, h5, h6, h7, h8, h9, h10, h11, h12, h13⟩ := h.2; have h0 := h.1; omega)
    rw [decide_eq_true c0]
    refine oV_eq (v := .pointer (some ⟨i2, 3, none⟩)) rfl (oV_eq (v := .int .i64 d.at_) hd.l3 (oV_eq (v := .bool (decide (0 ≤ d.at_))) (vInt_geq .i64 d.at_ 0) (oV_eq (v := .bool (decide (0 ≤ d.at_))) rfl ?_)))
    by_cases c1 : 0 ≤ d.at_
    case neg =>
      rw [decide_eq_false c1]
      exact dec_no l (fun h => by obtain ⟨h1, h2, h3, h4, h5, h6, h7, h8, h9, h10, h11, h12, h13⟩ := h.2; have h0 := h.1; omega)
    rw [decide_eq_true c1]
    refine oV_eq (v := .pointer (some ⟨i2, 7, none⟩)) rfl (oV_eq (v := .int .i64 d.src) hd.l7 (oV_eq (v := .bool (decide (0 ≤ d.src))) (vInt_geq .i64 d.src 0) (oV_eq (v := .bool (decide (0 ≤ d.src))) rfl ?_)))
    by_cases c2 : 0 ≤ d.src
    case neg =>
      rw [decide_eq_false c2]
      exact dec_no l (fun h => by obtain ⟨h1, h2, h3, h4, h5, h6, h7, h8, h9, h10, h11, h12, h13⟩ := h.2; have h0 := h.1; omega)
    rw [decide_eq_true c2]
    refine oV_eq (v := .pointer (some ⟨i2, 1, none⟩)) rfl (oV_eq (v := .int .i64 d.fr) hd.l1 (oV_eq (v := .bool (decide (1 ≤ d.fr))) (vInt_geq .i64 d.fr 1) (oV_eq (v := .bool (decide (1 ≤ d.fr))) rfl ?_)))
    by_cases c3 : 1 ≤ d.fr
    case neg =>
      rw [decide_eq_false c3]
      exact dec_no l (fun h => by obtain ⟨h1, h2, h3, h4, h5, h6, h7, h8, h9, h10, h11, h12, h13⟩ := h.2; have h0 := h.1; omega)
    rw [decide_eq_true c3]
    refine oV_eq (v := .pointer (some ⟨i2, 1, none⟩)) rfl (oV_eq (v := .int .i64 d.fr) hd.l1 (oV_eq (v := .pointer (some ⟨i1, 1, none⟩)) rfl (oV_eq (v := .int .i64 s.N) hs.n (oV_eq (v := .bool (decide (d.fr ≤ s.N))) (vInt_leq .i64 d.fr s.N) (oV_eq (v := .bool (decide (d.fr ≤ s.N))) rfl ?_)))))
    by_cases c4 : d.fr ≤ s.N
    case neg =>
      rw [decide_eq_false c4]
      exact dec_no l (fun h => by obtain ⟨h1, h2, h3, h4, h5, h6, h7, h8, h9, h10, h11, h12, h13⟩ := h.2; have h0 := h.1; omega)
    rw [decide_eq_true c4]
    refine oV_eq (v := .pointer (some ⟨i2, 2, none⟩)) rfl (oV_eq (v := .int .i64 d.to_) hd.l2 (oV_eq (v := .bool (decide (0 ≤ d.to_))) (vInt_geq .i64 d.to_ 0) (oV_eq (v := .bool (decide (0 ≤ d.to_))) rfl ?_)))
    by_cases c5 : 0 ≤ d.to_
    case neg =>
      rw [decide_eq_false c5]
      exact dec_no l (fun h => by obtain ⟨h1, h2, h3, h4, h5, h6, h7, h8, h9, h10, h11, h12, h13⟩ := h.2; have h0 := h.1; omega)
    rw [decide_eq_true c5]
    refine oV_eq (v := .pointer (some ⟨i2, 2, none⟩)) rfl (oV_eq (v := .int .i64 d.to_) hd.l2 (oV_eq (v := .pointer (some ⟨i1, 1, none⟩)) rfl (oV_eq (v := .int .i64 s.N) hs.n (oV_eq (v := .bool (decide (d.to_ ≤ s.N))) (vInt_leq .i64 d.to_ s.N) (oV_eq (v := .bool (decide (d.to_ ≤ s.N))) rfl ?_)))))
    by_cases c6 : d.to_ ≤ s.N
    case neg =>
      rw [decide_eq_false c6]
      exact dec_no l (fun h => by obtain ⟨h1, h2, h3, h4, h5, h6, h7, h8, h9, h10, h11, h12, h13⟩ := h.2; have h0 := h.1; omega)
    rw [decide_eq_true c6]
    refine oV_eq (v := .pointer (some ⟨i2, 4, none⟩)) rfl (oV_eq (v := .int .i64 d.kd) hd.l4 (oV_eq (v := .bool (decide (1 ≤ d.kd))) (vInt_geq .i64 d.kd 1) (oV_eq (v := .bool (decide (1 ≤ d.kd))) rfl ?_)))
    by_cases c7 : 1 ≤ d.kd
    case neg =>
      rw [decide_eq_false c7]
      exact dec_no l (fun h => by obtain ⟨h1, h2, h3, h4, h5, h6, h7, h8, h9, h10, h11, h12, h13⟩ := h.2; have h0 := h.1; omega)
    rw [decide_eq_true c7]
    refine oV_eq (v := .pointer (some ⟨i2, 4, none⟩)) rfl (oV_eq (v := .int .i64 d.kd) hd.l4 (oV_eq (v := .bool (decide (d.kd ≤ 4))) (vInt_leq .i64 d.kd 4) (oV_eq (v := .bool (decide (d.kd ≤ 4))) rfl ?_)))
    by_cases c8 : d.kd ≤ 4
    case neg =>
      rw [decide_eq_false c8]
      exact dec_no l (fun h => by obtain ⟨h1, h2, h3, h4, h5, h6, h7, h8, h9, h10, h11, h12, h13⟩ := h.2; have h0 := h.1; omega)
    rw [decide_eq_true c8]
    refine oV_eq (v := .pointer (some ⟨i2, 6, none⟩)) rfl (oV_eq (v := .int .i64 d.of_) hd.l6 (oV_eq (v := .int .i64 1) rfl (oV_eq (v := .bool (decide (1 ≤ d.of_))) (vInt_geq .i64 d.of_ 1) (oV_eq (v := .bool (decide (1 ≤ d.of_))) rfl ?_))))
    by_cases c9 : 1 ≤ d.of_
    case neg =>
      rw [decide_eq_false c9]
      exact dec_no l (fun h => by obtain ⟨h1, h2, h3, h4, h5, h6, h7, h8, h9, h10, h11, h12, h13⟩ := h.2; have := h11 k3; omega)
    rw [decide_eq_true c9]
    refine oV_eq (v := .pointer (some ⟨i2, 6, none⟩)) rfl (oV_eq (v := .int .i64 d.of_) hd.l6 (oV_eq (v := .pointer (some ⟨i1, 1, none⟩)) rfl (oV_eq (v := .int .i64 s.N) hs.n (oV_eq (v := .bool (decide (d.of_ ≤ s.N))) (vInt_leq .i64 d.of_ s.N) (oV_eq (v := .bool (decide (d.of_ ≤ s.N))) rfl ?_)))))
    exact dec_dec l ⟨fun h => ⟨c0, c1, c2, c3, c4, c5, c6, c7, c8, by omega, h, fun _ => c9, hk0, hk1⟩, fun h => h.2.of2⟩
  · skip
    refine oV_eq (vField_to _ _) (oV_eq hd.l0 (oV_eq (v := .bool (decide (0 ≤ d.rd))) (vInt_geq .i64 d.rd 0) ?_))
    by_cases c0 : 0 ≤ d.rd
    case neg =>
      rw [decide_eq_false c0]
      exact dec_no l (fun h => by obtain ⟨h1, h2, h3, h4, h5, h6, h7, h8, h9, h10, h11, h12, h13⟩ := h.2; have h0 := h.1; omega)
    rw [decide_eq_true c0]
    refine oV_eq (v := .pointer (some ⟨i2, 3, none⟩)) rfl (oV_eq (v := .int .i64 d.at_) hd.l3 (oV_eq (v := .bool (decide (0 ≤ d.at_))) (vInt_geq .i64 d.at_ 0) (oV_eq (v := .bool (decide (0 ≤ d.at_))) rfl ?_)))
    by_cases c1 : 0 ≤ d.at_
    case neg =>
      rw [decide_eq_false c1]
      exact dec_no l (fun h => by obtain ⟨h1, h2, h3, h4, h5, h6, h7, h8, h9, h10, h11, h12, h13⟩ := h.2; have h0 := h.1; omega)
    rw [decide_eq_true c1]
    refine oV_eq (v := .pointer (some ⟨i2, 7, none⟩)) rfl (oV_eq (v := .int .i64 d.src) hd.l7 (oV_eq (v := .bool (decide (0 ≤ d.src))) (vInt_geq .i64 d.src 0) (oV_eq (v := .bool (decide (0 ≤ d.src))) rfl ?_)))
    by_cases c2 : 0 ≤ d.src
    case neg =>
      rw [decide_eq_false c2]
      exact dec_no l (fun h => by obtain ⟨h1, h2, h3, h4, h5, h6, h7, h8, h9, h10, h11, h12, h13⟩ := h.2; have h0 := h.1; omega)
    rw [decide_eq_true c2]
    refine oV_eq (v := .pointer (some ⟨i2, 1, none⟩)) rfl (oV_eq (v := .int .i64 d.fr) hd.l1 (oV_eq (v := .bool (decide (1 ≤ d.fr))) (vInt_geq .i64 d.fr 1) (oV_eq (v := .bool (decide (1 ≤ d.fr))) rfl ?_)))
    by_cases c3 : 1 ≤ d.fr
    case neg =>
      rw [decide_eq_false c3]
      exact dec_no l (fun h => by obtain ⟨h1, h2, h3, h4, h5, h6, h7, h8, h9, h10, h11, h12, h13⟩ := h.2; have h0 := h.1; omega)
    rw [decide_eq_true c3]
    refine oV_eq (v := .pointer (some ⟨i2, 1, none⟩)) rfl (oV_eq (v := .int .i64 d.fr) hd.l1 (oV_eq (v := .pointer (some ⟨i1, 1, none⟩)) rfl (oV_eq (v := .int .i64 s.N) hs.n (oV_eq (v := .bool (decide (d.fr ≤ s.N))) (vInt_leq .i64 d.fr s.N) (oV_eq (v := .bool (decide (d.fr ≤ s.N))) rfl ?_)))))
    by_cases c4 : d.fr ≤ s.N
    case neg =>
      rw [decide_eq_false c4]
      exact dec_no l (fun h => by obtain ⟨h1, h2, h3, h4, h5, h6, h7, h8, h9, h10, h11, h12, h13⟩ := h.2; have h0 := h.1; omega)
    rw [decide_eq_true c4]
    refine oV_eq (v := .pointer (some ⟨i2, 2, none⟩)) rfl (oV_eq (v := .int .i64 d.to_) hd.l2 (oV_eq (v := .bool (decide (0 ≤ d.to_))) (vInt_geq .i64 d.to_ 0) (oV_eq (v := .bool (decide (0 ≤ d.to_))) rfl ?_)))
    by_cases c5 : 0 ≤ d.to_
    case neg =>
      rw [decide_eq_false c5]
      exact dec_no l (fun h => by obtain ⟨h1, h2, h3, h4, h5, h6, h7, h8, h9, h10, h11, h12, h13⟩ := h.2; have h0 := h.1; omega)
    rw [decide_eq_true c5]
    refine oV_eq (v := .pointer (some ⟨i2, 2, none⟩)) rfl (oV_eq (v := .int .i64 d.to_) hd.l2 (oV_eq (v := .pointer (some ⟨i1, 1, none⟩)) rfl (oV_eq (v := .int .i64 s.N) hs.n (oV_eq (v := .bool (decide (d.to_ ≤ s.N))) (vInt_leq .i64 d.to_ s.N) (oV_eq (v := .bool (decide (d.to_ ≤ s.N))) rfl ?_)))))
    by_cases c6 : d.to_ ≤ s.N
    case neg =>
      rw [decide_eq_false c6]
      exact dec_no l (fun h => by obtain ⟨h1, h2, h3, h4, h5, h6, h7, h8, h9, h10, h11, h12, h13⟩ := h.2; have h0 := h.1; omega)
    rw [decide_eq_true c6]
    refine oV_eq (v := .pointer (some ⟨i2, 4, none⟩)) rfl (oV_eq (v := .int .i64 d.kd) hd.l4 (oV_eq (v := .bool (decide (1 ≤ d.kd))) (vInt_geq .i64 d.kd 1) (oV_eq (v := .bool (decide (1 ≤ d.kd))) rfl ?_)))
    by_cases c7 : 1 ≤ d.kd
    case neg =>
      rw [decide_eq_false c7]
      exact dec_no l (fun h => by obtain ⟨h1, h2, h3, h4, h5, h6, h7, h8, h9, h10, h11, h12, h13⟩ := h.2; have h0 := h.1; omega)
    rw [decide_eq_true c7]
    refine oV_eq (v := .pointer (some ⟨i2, 4, none⟩)) rfl (oV_eq (v := .int .i64 d.kd) hd.l4 (oV_eq (v := .bool (decide (d.kd ≤ 4))) (vInt_leq .i64 d.kd 4) (oV_eq (v := .bool (decide (d.kd ≤ 4))) rfl ?_)))
    by_cases c8 : d.kd ≤ 4
    case neg =>
      rw [decide_eq_false c8]
      exact dec_no l (fun h => by obtain ⟨h1, h2, h3, h4, h5, h6, h7, h8, h9, h10, h11, h12, h13⟩ := h.2; have h0 := h.1; omega)
    rw [decide_eq_true c8]
    refine oV_eq (v := .pointer (some ⟨i2, 6, none⟩)) rfl (oV_eq (v := .int .i64 d.of_) hd.l6 (oV_eq (v := .int .i64 0) rfl (oV_eq (v := .bool (decide (0 ≤ d.of_))) (vInt_geq .i64 d.of_ 0) (oV_eq (v := .bool (decide (0 ≤ d.of_))) rfl ?_))))
    by_cases c9 : 0 ≤ d.of_
    case neg =>
      rw [decide_eq_false c9]
      exact dec_no l (fun h => by obtain ⟨h1, h2, h3, h4, h5, h6, h7, h8, h9, h10, h11, h12, h13⟩ := h.2; omega)
    rw [decide_eq_true c9]
    refine oV_eq (v := .pointer (some ⟨i2, 6, none⟩)) rfl (oV_eq (v := .int .i64 d.of_) hd.l6 (oV_eq (v := .pointer (some ⟨i1, 1, none⟩)) rfl (oV_eq (v := .int .i64 s.N) hs.n (oV_eq (v := .bool (decide (d.of_ ≤ s.N))) (vInt_leq .i64 d.of_ s.N) (oV_eq (v := .bool (decide (d.of_ ≤ s.N))) rfl ?_)))))
    exact dec_dec l ⟨fun h => ⟨c0, c1, c2, c3, c4, c5, c6, c7, c8, c9, h, fun e => absurd e k3, hk0, hk1⟩, fun h => h.2.of2⟩
/-! ### The coalition -/
def coalAt (s : Scn) (xs : List Int) (j : Nat) (h : j < xs.length) : Prop := 1 ≤ xs[j] ∧ xs[j] ≤ s.N ∧ ∀ _ : 0 < j, xs[j - 1]'(by omega) < xs[j]
def coalOk (s : Scn) (xs : List Int) : Prop := (xs.length : Int) ≤ s.T ∧ ∀ (j : Nat) (h : j < xs.length), coalAt s xs j h
theorem coal_loop {v : Value} {xs : List Int} (hv : Sl (eInt .i64) H v xs) (hs : PAt H i s) {kn : Heap → Prop} {Q : Ending → Heap → Prop} (hk : (∀ (j : Nat) (h : j < xs.length), coalAt s xs j h) → kn H) (hq : ¬ (∀ (j : Nat) (h : j < xs.length), coalAt s xs j h) → Q (.returned (.bool false)) H) :
    ∀ (d j : Nat), xs.length - j = d → j ≤ xs.length → (∀ (j' : Nat) (h : j' < xs.length), j' < j → coalAt s xs j' h) → L91_3 v (ptrTo i) (.int .i64 j) H kn Q := by
  have hm := hv.max
  intro d
  induction d with
  | zero =>
    intro j hd hi ha
    apply L91_3_round
    unfold m91_4
    refine oV_eq hv.len (oV_eq (vInt_lss _ _ _) (condK_dec (fun hlt => absurd hlt (by omega)) (fun _ => hk fun j' h => ha j' h (by omega))))
  | succ d ih =>
    intro j hd hi ha
    apply L91_3_round
    unfold m91_4
    refine oV_eq hv.len (oV_eq (vInt_lss _ _ _) (condK_dec (fun hlt => ?_) (fun hlt => absurd (by omega) hlt)))
    have hjl : j < xs.length := by omega
    obtain ⟨q, f1, f2⟩ := hv.int .i64 (i := (j : Int)) (by omega) (by omega) (ti := ty3) rfl
    have ey : xs.getD (j : Int).toNat 0 = xs[j] := by simp [hjl]
    rw [ey] at f2
    have w1 := wrap_i64 (show -9223372036854775808 ≤ (j : Int) + 1 by omega) (by omega)
    have next := fun (h : coalAt s xs j hjl) => ih (j + 1) (by omega) (by omega) fun j' h' hj' => by
      by_cases e : j' = j
      · subst e; exact h
      · exact ha j' h' (by omega)
    have hno : ¬ coalAt s xs j hjl → Q (.returned (.bool false)) H := fun h => hq fun hh => h (hh j hjl)
    generalize hy : xs[j] = y at f2
    refine oV_eq f1 (oV_eq f2 (oV_eq (vInt_lss _ _ _) ?_))
    by_cases c1 : y < 1
    · rw [decide_eq_true c1]
      exact condK_true (hno fun h => by have := h.1; omega)
    rw [decide_eq_false c1]
    refine oV_eq (v := v) rfl (oV_eq (v := .int .i64 j) rfl (oV_eq (v := q) f1 (oV_eq (v := .int .i64 y) f2 (oV_eq (v := .pointer (some ⟨i, 1, none⟩)) rfl (oV_eq (v := .int .i64 s.N) hs.n (oV_eq (v := .bool (decide (s.N < y))) (vInt_gtr .i64 y s.N) (oV_eq (v := .bool (decide (s.N < y))) rfl ?_)))))))
    by_cases c2 : s.N < y
    · rw [decide_eq_true c2]
      exact condK_true (hno fun h => by have := h.2.1; omega)
    rw [decide_eq_false c2]
    refine oV_eq (v := .int .i64 j) rfl (oV_eq (v := .bool (decide (0 < (j : Int)))) (vInt_gtr .i64 (j : Int) 0) (oV_eq (v := .bool (decide (0 < (j : Int)))) rfl ?_))
    by_cases c3 : 0 < (j : Int)
    · rw [decide_eq_true c3]
      obtain ⟨q2, g1, g2⟩ := hv.int .i64 (i := (j : Int) - 1) (by omega) (by omega) (ti := ty3) rfl
      have ez : xs.getD ((j : Int) - 1).toNat 0 = xs[j - 1]'(by omega) := by
        rw [show ((j : Int) - 1).toNat = j - 1 by omega]
        simp [show j - 1 < xs.length by omega]
      rw [ez] at g2
      generalize hz : xs[j - 1]'(by omega) = z at g2
      have w2 := wrap_i64 (show -9223372036854775808 ≤ (j : Int) - 1 by omega) (by omega)
      have e2 : vInt .sub (.int .i64 (j : Int)) (.int .i64 1) = some (.int .i64 ((j : Int) - 1)) := by rw [vInt_sub, w2]
      refine oV_eq (v := v) rfl (oV_eq (v := .int .i64 j) rfl (oV_eq (v := q) f1 (oV_eq (v := .int .i64 y) f2 (oV_eq (v := v) rfl (oV_eq (v := .int .i64 j) rfl (oV_eq (v := .int .i64 ((j : Int) - 1)) e2 (oV_eq (v := q2) g1 (oV_eq (v := .int .i64 z) g2 (oV_eq (v := .bool (decide (y ≤ z))) (vInt_leq .i64 y z) (oV_eq (v := .bool (decide (y ≤ z))) rfl (oV_eq (v := .bool (decide (y ≤ z))) rfl (condK_dec (fun c4 => ?_) (fun c4 => oV_eq (vInt_add _ _ _) ?_)))))))))))))
      · exact hno fun h => by have := h.2.2 (by omega); rw [hy, hz] at this; omega
      rw [w1]
      exact next ⟨by omega, by omega, fun _ => by rw [hy, hz]; omega⟩
    · rw [decide_eq_false c3]
      refine condK_false (oV_eq (vInt_add _ _ _) ?_)
      rw [w1]
      exact next ⟨by omega, by omega, fun h => absurd h (by omega)⟩
theorem coal_spec {v : Value} {xs : List Int} (hv : Sl (eInt .i64) H v xs) (s : Scn) : RCalls Tryd.prog 91 [parVal s, v] H (Dec (parOk s ∧ coalOk s xs) H) := by
  apply call91
  unfold m91
  refine par_new s fun i H1 l1 hs => ?_
  refine oV_eq hs.all (oRC_ret (valid_spec H1 s) fun r H2 hr => ?_)
  obtain ⟨l2, b, rfl, hb⟩ := hr
  replace hs := hs.mono l2
  have l := l1.trans l2
  cases b with
  | false => exact condK_true (dec_no l fun h => by have := hb.2 h.1; cases this)
  | true =>
    refine oV_eq (v := .bool false) rfl (oV_eq (v := v) rfl (oV_eq (v := .int .i64 xs.length) hv.len (oV_eq (v := .pointer (some ⟨i, 2, none⟩)) rfl (oV_eq (v := .int .i64 s.T) hs.t (oV_eq (v := .bool (decide (s.T < (xs.length : Int)))) (vInt_gtr .i64 (xs.length : Int) s.T) (oV_eq (v := .bool (decide (s.T < (xs.length : Int)))) rfl (condK_dec (fun c => dec_no l fun h => absurd h.2.1 (by omega)) (fun c => ?_))))))))
    unfold m91_2
    refine coal_loop (s := s) (hv.mono l) hs (fun h => ?_) (fun h => dec_no l fun hh => h hh.2.2) _ 0 rfl (by omega) (fun j h hj => absurd hj (by omega))
    unfold m91_1
    exact dec_yes l ⟨hb.1 rfl, by omega, h⟩
theorem pcoal_loop {v : Value} {xs : List Int} (hv : Sl (eInt .i64) H v xs) (hs : PAt H i s) {kn : Heap → Prop} {Q : Ending → Heap → Prop} (hk : (∀ (j : Nat) (h : j < xs.length), coalAt s xs j h) → kn H) (hq : ¬ (∀ (j : Nat) (h : j < xs.length), coalAt s xs j h) → Q (.returned (.bool false)) H) :
    ∀ (d j : Nat), xs.length - j = d → j ≤ xs.length → (∀ (j' : Nat) (h : j' < xs.length), j' < j → coalAt s xs j' h) → L82_3 v (ptrTo i) v (.int .i64 xs.length) (.int .i64 j) H kn Q := by
  have hm := hv.max
  intro d
  induction d with
  | zero =>
    intro j hd hi ha
    apply L82_3_round
    unfold m82_4
    refine (oV_eq (vInt_lss _ _ _) (condK_dec (fun hlt => absurd hlt (by omega)) (fun _ => hk fun j' h => ha j' h (by omega))))
  | succ d ih =>
    intro j hd hi ha
    apply L82_3_round
    unfold m82_4
    refine (oV_eq (vInt_lss _ _ _) (condK_dec (fun hlt => ?_) (fun hlt => absurd (by omega) hlt)))
    have hjl : j < xs.length := by omega
    obtain ⟨q, f1, f2⟩ := hv.int .i64 (i := (j : Int)) (by omega) (by omega) (ti := ty3) rfl
    have ey : xs.getD (j : Int).toNat 0 = xs[j] := by simp [hjl]
    rw [ey] at f2
    have w1 := wrap_i64 (show -9223372036854775808 ≤ (j : Int) + 1 by omega) (by omega)
    have next := fun (h : coalAt s xs j hjl) => ih (j + 1) (by omega) (by omega) fun j' h' hj' => by
      by_cases e : j' = j
      · subst e; exact h
      · exact ha j' h' (by omega)
    have hno : ¬ coalAt s xs j hjl → Q (.returned (.bool false)) H := fun h => hq fun hh => h (hh j hjl)
    generalize hy : xs[j] = y at f2
    refine oV_eq f1 (oV_eq f2 (oV_eq (vInt_lss _ _ _) ?_))
    by_cases c1 : y < 1
    · rw [decide_eq_true c1]
      exact condK_true (hno fun h => by have := h.1; omega)
    rw [decide_eq_false c1]
    refine oV_eq (v := .int .i64 y) rfl (oV_eq (v := .pointer (some ⟨i, 1, none⟩)) rfl (oV_eq (v := .int .i64 s.N) hs.n (oV_eq (v := .bool (decide (s.N < y))) (vInt_gtr .i64 y s.N) (oV_eq (v := .bool (decide (s.N < y))) rfl ?_))))
    by_cases c2 : s.N < y
    · rw [decide_eq_true c2]
      exact condK_true (hno fun h => by have := h.2.1; omega)
    rw [decide_eq_false c2]
    refine oV_eq (v := .int .i64 j) rfl (oV_eq (v := .bool (decide (0 < (j : Int)))) (vInt_gtr .i64 (j : Int) 0) (oV_eq (v := .bool (decide (0 < (j : Int)))) rfl ?_))
    by_cases c3 : 0 < (j : Int)
    · rw [decide_eq_true c3]
      obtain ⟨q2, g1, g2⟩ := hv.int .i64 (i := (j : Int) - 1) (by omega) (by omega) (ti := ty3) rfl
      have ez : xs.getD ((j : Int) - 1).toNat 0 = xs[j - 1]'(by omega) := by
        rw [show ((j : Int) - 1).toNat = j - 1 by omega]
        simp [show j - 1 < xs.length by omega]
      rw [ez] at g2
      generalize hz : xs[j - 1]'(by omega) = z at g2
      have w2 := wrap_i64 (show -9223372036854775808 ≤ (j : Int) - 1 by omega) (by omega)
      have e2 : vInt .sub (.int .i64 (j : Int)) (.int .i64 1) = some (.int .i64 ((j : Int) - 1)) := by rw [vInt_sub, w2]
      refine oV_eq (v := v) rfl (oV_eq (v := .int .i64 j) rfl (oV_eq (v := .int .i64 ((j : Int) - 1)) e2 (oV_eq (v := q2) g1 (oV_eq (v := .int .i64 z) g2 (oV_eq (v := .int .i64 y) rfl (oV_eq (v := .bool (decide (y ≤ z))) (vInt_geq .i64 z y) (oV_eq (v := .bool (decide (y ≤ z))) rfl (oV_eq (v := .bool (decide (y ≤ z))) rfl (condK_dec (fun c4 => ?_) (fun c4 => oV_eq (vInt_add _ _ _) ?_))))))))))
      · exact hno fun h => by have := h.2.2 (by omega); rw [hy, hz] at this; omega
      rw [w1]
      exact next ⟨by omega, by omega, fun _ => by rw [hy, hz]; omega⟩
    · rw [decide_eq_false c3]
      refine condK_false (oV_eq (vInt_add _ _ _) ?_)
      rw [w1]
      exact next ⟨by omega, by omega, fun h => absurd h (by omega)⟩
theorem pcoal_spec {v : Value} {xs : List Int} (hv : Sl (eInt .i64) H v xs) (s : Scn) (hG : GL H) : RCalls Tryd.prog 82 [parVal s, v] H (Dec (parOk s ∧ coalOk s xs) H) := by
  apply call82
  unfold m82
  refine par_new s fun i H1 l1 hs => ?_
  refine oV_eq hs.all (oRC_ret (pvalid_spec H1 s (hG.mono l1)) fun r H2 hr => ?_)
  obtain ⟨l2, b, rfl, hb⟩ := hr
  replace hs := hs.mono l2
  have l := l1.trans l2
  cases b with
  | false => exact condK_true (dec_no l fun h => by have := hb.2 h.1; cases this)
  | true =>
    refine oV_eq (v := .bool false) rfl (oV_eq (v := v) rfl (oV_eq (v := .int .i64 xs.length) hv.len (oV_eq (v := .pointer (some ⟨i, 2, none⟩)) rfl (oV_eq (v := .int .i64 s.T) hs.t (oV_eq (v := .bool (decide (s.T < (xs.length : Int)))) (vInt_gtr .i64 (xs.length : Int) s.T) (oV_eq (v := .bool (decide (s.T < (xs.length : Int)))) rfl (condK_dec (fun c => dec_no l fun h => absurd h.2.1 (by omega)) (fun c => ?_))))))))
    unfold m82_2
    refine oV_eq hv.len ?_
    refine pcoal_loop (s := s) (hv.mono l) hs (fun h => ?_) (fun h => dec_no l fun hh => h hh.2.2) _ 0 rfl (by omega) (fun j h hj => absurd hj (by omega))
    unfold m82_1
    exact dec_yes l ⟨hb.1 rfl, by omega, h⟩
end
/-! ### The scenario -/
/-- A scenario is valid. -/
structure ScnV (s : Scn) : Prop where
  par : parOk s
  coal : coalOk s s.bad
  len : (s.tapes.length : Int) = s.N
  devs : ∀ d ∈ s.devs, devOk s.N d
  tapes : ∀ l ∈ s.tapes, ∀ x ∈ l, x < s.P
section
variable {H : Heap} {i : Nat} {s : Scn} {cv dv tv : Value}
theorem tapes_loop {Hb H0 : Heap} (hb : Le Hb H0) (hs : SAt H0 i s cv dv tv) (hok : ScnOk H0 s cv dv tv) (hP : (∀ l ∈ s.tapes, ∀ x ∈ l, x < s.P) → ScnV s) :
    ∀ (d j : Nat) (H : Heap), s.tapes.length - j = d → j ≤ s.tapes.length → Le H0 H → (∀ l ∈ s.tapes.take j, ∀ x ∈ l, x < s.P) → L54_4 (ptrTo i) (.int .i64 j) H (fun H_16 => m54_2 H_16 (Dec (ScnV s) Hb)) (Dec (ScnV s) Hb) := by
  have hm := hok.tapes.max
  intro d
  induction d with
  | zero =>
    intro j H hd hi hl ha
    apply L54_4_round
    unfold m54_5
    refine oV_eq (vField_to _ _) (oV_eq (hs.mono hl).t (oV_eq hok.tapes.len (oV_eq (vInt_lss _ _ _) (condK_dec (fun hlt => absurd hlt (by omega)) (fun _ => ?_)))))
    unfold m54_2
    rw [List.take_of_length_le (by omega)] at ha
    exact dec_yes (hb.trans hl) (hP ha)
  | succ d ih =>
    intro j H hd hi hl ha
    apply L54_4_round
    unfold m54_5
    have hsH := hs.mono hl
    refine oV_eq (vField_to _ _) (oV_eq hsH.t (oV_eq hok.tapes.len (oV_eq (vInt_lss _ _ _) (condK_dec (fun hlt => ?_) (fun hlt => absurd (by omega) hlt)))))
    have hjl : j < s.tapes.length := by omega
    obtain ⟨pt, u, a1, a2, a3⟩ := (hok.tapes.mono hl).slice .i64 (i := (j : Int)) (by omega) (by omega) (ti := ty52) rfl
    have e : s.tapes.getD (j : Int).toNat [] = s.tapes[j] := by simp [hjl]
    rw [e] at a3
    refine oV_eq (vField_to _ _) (oV_eq (v := .pointer (some ⟨i, 0, none⟩)) rfl (oV_eq hsH.p (oV_eq (vField_to _ _) (oV_eq hsH.t (oV_eq a1 (oV_eq a2 (oRC_ret (below_spec (p := s.P) a3) fun r H2 hr => ?_)))))))
    obtain ⟨l2, b, rfl, hbw⟩ := hr
    cases b with
    | false => exact oV_eq rfl (condK_true (dec_no (hb.trans (hl.trans l2)) fun h => by have := hbw.2 (h.tapes _ (List.getElem_mem hjl)); cases this))
    | true =>
      refine oV_eq rfl (condK_false (oV_eq (vInt_add _ _ _) ?_))
      rw [wrap_i64 (by omega) (by omega)]
      refine ih (j + 1) H2 (by omega) (by omega) (hl.trans l2) fun l hx => ?_
      rw [List.take_succ_eq_append_getElem hjl] at hx
      rcases List.mem_append.1 hx with hx | hx
      · exact ha l hx
      · rw [List.mem_singleton.1 hx]
        exact hbw.1 rfl
theorem devs_loop {Hb H0 : Heap} (hb0 : Le Hb H0) (hs : SAt H0 i s cv dv tv) (hok : ScnOk H0 s cv dv tv) (hk : ∀ d ∈ s.devs, 0 ≤ d.k ∧ d.k ≤ 18446744073709551615) {kn : Value → Heap → Prop} (hkn : ∀ H, Le H0 H → (∀ d ∈ s.devs, devOk s.N d) → kn (ptrTo i) H) :
    ∀ (d j : Nat) (H : Heap), s.devs.length - j = d → j ≤ s.devs.length → Le H0 H → (∀ d ∈ s.devs.take j, devOk s.N d) → L54_7 (ptrTo i) (.int .i64 j) H kn (Dec (ScnV s) Hb) := by
  have hm := hok.devs.max
  intro d
  induction d with
  | zero =>
    intro j H hd hi hl ha
    apply L54_7_round
    unfold m54_8
    refine oV_eq (vField_to _ _) (oV_eq (hs.mono hl).ds (oV_eq hok.devs.len (oV_eq (vInt_lss _ _ _) (condK_dec (fun hlt => absurd hlt (by omega)) (fun _ => ?_)))))
    rw [List.take_of_length_le (by omega)] at ha
    exact hkn H hl ha
  | succ d ih =>
    intro j H hd hi hl ha
    apply L54_7_round
    unfold m54_8
    have hsH := hs.mono hl
    refine oV_eq (vField_to _ _) (oV_eq hsH.ds (oV_eq hok.devs.len (oV_eq (vInt_lss _ _ _) (condK_dec (fun hlt => ?_) (fun hlt => absurd (by omega) hlt)))))
    have hil : j < s.devs.length := by omega
    obtain ⟨q, f1, f2⟩ := (hok.devs.mono hl).dev hil
    have hkd := hk _ (List.getElem_mem hil)
    refine oV_eq (vField_to _ _) (oV_eq hsH.par (oV_eq (vField_to _ _) (oV_eq hsH.ds (oV_eq f1 (oV_eq f2 (oRC_ret (dev_spec H s _ hkd.1 hkd.2) fun r H2 hr => ?_))))))
    obtain ⟨l2, b, rfl, hb⟩ := hr
    cases b with
    | false => exact oV_eq rfl (condK_true (dec_no (hb0.trans (hl.trans l2)) fun h => by have := hb.2 (h.devs _ (List.getElem_mem hil)); cases this))
    | true =>
      refine oV_eq rfl (condK_false (oV_eq (vInt_add _ _ _) ?_))
      rw [wrap_i64 (by omega) (by omega)]
      refine ih (j + 1) H2 (by omega) (by omega) (hl.trans l2) fun x hx => ?_
      rw [List.take_succ_eq_append_getElem hil] at hx
      rcases List.mem_append.1 hx with hx | hx
      · exact ha x hx
      · rw [List.mem_singleton.1 hx]
        exact hb.1 rfl
theorem scn_spec (hok : ScnOk H s cv dv tv) (hk : ∀ d ∈ s.devs, 0 ≤ d.k ∧ d.k ≤ 18446744073709551615) : RCalls Tryd.prog 54 [scnVal s cv dv tv] H (Dec (ScnV s) H) := by
  apply call54
  unfold m54
  refine scn_new s cv dv tv fun i H1 l1 hs => ?_
  refine oV_eq (vField_to _ _) (oV_eq hs.par (oRC_ret (valid_spec H1 s) fun r H2 hr => ?_))
  obtain ⟨l2, b, rfl, hb⟩ := hr
  replace hs := hs.mono l2
  have l := l1.trans l2
  cases b with
  | false => exact gK_TF (condK_true (dec_no l fun h => by have := hb.2 h.par; cases this))
  | true =>
    refine oV_eq (v := .bool false) rfl (oV_eq (v := .pointer (some ⟨i, 0, none⟩)) rfl (oV_eq (v := parVal s) hs.par (oV_eq (v := .pointer (some ⟨i, 3, none⟩)) rfl (oV_eq (v := cv) hs.c ?_))))
    refine gK_FF (oRC_ret (coal_spec (hok.bad.mono l) s) fun r H3 hr => ?_)
    obtain ⟨l3, b2, rfl, hb2⟩ := hr
    replace hs := hs.mono l3
    replace l := l.trans l3
    cases b2 with
    | false => exact condK_true (dec_no l fun h => by have := hb2.2 ⟨h.par, h.coal⟩; cases this)
    | true =>
      refine oV_eq (v := .bool false) rfl (oV_eq (v := .bool false) rfl (oV_eq (v := .pointer (some ⟨i, 5, none⟩)) rfl (oV_eq (v := tv) hs.t (oV_eq (v := .int .i64 s.tapes.length) hok.tapes.len (oV_eq (v := .pointer (some ⟨i, 0, none⟩)) rfl (oV_eq (v := .pointer (some ⟨i, 1, none⟩)) rfl (oV_eq (v := .int .i64 s.N) hs.n (oV_eq (v := .bool (decide ((s.tapes.length : Int) ≠ s.N))) (vInt_neq .i64 (s.tapes.length : Int) s.N) (oV_eq (v := .bool (decide ((s.tapes.length : Int) ≠ s.N))) rfl (condK_dec (fun c => dec_no l fun h => c h.len) (fun c => ?_)))))))))))
      have c : (s.tapes.length : Int) = s.N := by simpa using c
      unfold m54_6
      exact devs_loop (Hb := H) (H0 := H3) l hs (hok.mono l) hk (fun K hl ha => by
        unfold m54_1 m54_3
        exact tapes_loop (H0 := H3) l hs (hok.mono l) (fun ht => ⟨hb.1 rfl, (hb2.1 rfl).2, c, ha, ht⟩) _ 0 K rfl (by omega) hl (by simp)) _ 0 H3 rfl (by omega) (Le.refl _) (by simp)
end
/-! ### The program's check of a scenario -/
section
variable {H G : Heap} {i : Nat} {s : Scn} {cv dv tv : Value}
theorem bigs_spec {v : Value} {ws : List Int} (hs : SAt G i s cv dv tv) (hl0 : Le G H) (hv : Sl (eInt .u64) H v ws) : RCalls Tryd.prog 88 [v, .func (.func 89) #[] #[ptrTo i]] H (Dec (¬ ∀ x ∈ ws, x < s.P) H) := by
  have hm := hv.max
  apply call88
  unfold m88
  have idx : RCalls Tryd.prog 115 [v, .func (.func 89) #[] #[ptrTo i]] H (Ret fun r H' => Le H H' ∧ ∃ n : Int, r = .int .i64 n ∧ (0 ≤ n ↔ ¬ ∀ x ∈ ws, x < s.P)) := by
    apply call115
    unfold m115 m115_2
    refine oV_eq hv.len ?_
    have key : ∀ (d j : Nat), ws.length - j = d → j ≤ ws.length → (∀ x ∈ ws.take j, x < s.P) → L115_3 v (.func (.func 89) #[] #[ptrTo i]) (.int .i64 ws.length) (.int .i64 j) H (fun H_8 => m115_1 H_8 (Ret fun r H' => Le H H' ∧ ∃ n : Int, r = .int .i64 n ∧ (0 ≤ n ↔ ¬ ∀ x ∈ ws, x < s.P))) (Ret fun r H' => Le H H' ∧ ∃ n : Int, r = .int .i64 n ∧ (0 ≤ n ↔ ¬ ∀ x ∈ ws, x < s.P)) := by
      intro d
      induction d with
      | zero =>
        intro j hd hi ha
        apply L115_3_round
        unfold m115_4
        refine oV_eq (vInt_lss _ _ _) (condK_dec (fun hlt => absurd hlt (by omega)) (fun _ => ?_))
        unfold m115_1
        rw [List.take_of_length_le (by omega)] at ha
        exact ⟨Le.refl _, -1, rfl, ⟨fun h => absurd h (by omega), fun h => absurd ha h⟩⟩
      | succ d ih =>
        intro j hd hi ha
        apply L115_3_round
        unfold m115_4
        refine oV_eq (vInt_lss _ _ _) (condK_dec (fun hlt => ?_) (fun hlt => absurd (by omega) hlt))
        have hil : j < ws.length := by omega
        obtain ⟨q, f1, f2⟩ := hv.int .i64 (i := (j : Int)) (by omega) (by omega) (ti := ty22) rfl
        have e : ws.getD (j : Int).toNat 0 = ws[j] := by simp [hil]
        rw [e] at f2
        have one : RCalls Tryd.prog 89 [.int .u64 ws[j], ptrTo i] H (Val (.bool (decide (s.P ≤ ws[j]))) H) := by
          apply call89
          unfold m89
          exact oV_eq (vField_to _ _) (oV_eq (v := .pointer (some ⟨i, 0, none⟩)) rfl (oV_eq (hs.mono hl0).p (oV_eq (vInt_geq _ _ _) ⟨rfl, rfl⟩)))
        refine oV_eq f1 (oV_eq f2 (oCl_ret rfl one fun r H' hr => ?_))
        obtain ⟨rfl, rfl⟩ := hr
        refine condK_dec (fun c => ⟨Le.refl _, j, rfl, ⟨fun _ h => by have := h _ (List.getElem_mem hil); omega, fun _ => by omega⟩⟩) (fun c => oV_eq (vInt_add _ _ _) ?_)
        rw [wrap_i64 (by omega) (by omega)]
        refine ih (j + 1) (by omega) (by omega) fun x hx => ?_
        rw [List.take_succ_eq_append_getElem hil] at hx
        rcases List.mem_append.1 hx with hx | hx
        · exact ha x hx
        · rw [List.mem_singleton.1 hx]
          omega
    exact key _ 0 rfl (by omega) (by simp)
  refine oRC_ret idx fun r H' hr => ?_
  obtain ⟨hl, n, rfl, hn⟩ := hr
  exact oV_eq (vInt_geq _ _ _) (dec_dec hl hn)
theorem ptapes_spec (hs : SAt H i s cv dv tv) (hok : ScnOk H s cv dv tv) : RCalls Tryd.prog 86 [tv, .func (.func 87) #[] #[ptrTo i]] H (Dec (¬ ∀ l ∈ s.tapes, ∀ x ∈ l, x < s.P) H) := by
  have hm := hok.tapes.max
  apply call86
  unfold m86
  have idx : RCalls Tryd.prog 114 [tv, .func (.func 87) #[] #[ptrTo i]] H (Ret fun r H' => Le H H' ∧ ∃ n : Int, r = .int .i64 n ∧ (0 ≤ n ↔ ¬ ∀ l ∈ s.tapes, ∀ x ∈ l, x < s.P)) := by
    apply call114
    unfold m114 m114_2
    refine oV_eq hok.tapes.len ?_
    have key : ∀ (d j : Nat) (K : Heap), Le H K → s.tapes.length - j = d → j ≤ s.tapes.length → (∀ l ∈ s.tapes.take j, ∀ x ∈ l, x < s.P) → L114_3 tv (.func (.func 87) #[] #[ptrTo i]) (.int .i64 s.tapes.length) (.int .i64 j) K (fun H_8 => m114_1 H_8 (Ret fun r H' => Le H H' ∧ ∃ n : Int, r = .int .i64 n ∧ (0 ≤ n ↔ ¬ ∀ l ∈ s.tapes, ∀ x ∈ l, x < s.P))) (Ret fun r H' => Le H H' ∧ ∃ n : Int, r = .int .i64 n ∧ (0 ≤ n ↔ ¬ ∀ l ∈ s.tapes, ∀ x ∈ l, x < s.P)) := by
      intro d
      induction d with
      | zero =>
        intro j K hK hd hi ha
        apply L114_3_round
        unfold m114_4
        refine oV_eq (vInt_lss _ _ _) (condK_dec (fun hlt => absurd hlt (by omega)) (fun _ => ?_))
        unfold m114_1
        rw [List.take_of_length_le (by omega)] at ha
        exact ⟨hK, -1, rfl, ⟨fun h => absurd h (by omega), fun h => absurd ha h⟩⟩
      | succ d ih =>
        intro j K hK hd hi ha
        apply L114_3_round
        unfold m114_4
        refine oV_eq (vInt_lss _ _ _) (condK_dec (fun hlt => ?_) (fun hlt => absurd (by omega) hlt))
        have hil : j < s.tapes.length := by omega
        obtain ⟨pt, u, a1, a2, a3⟩ := (hok.tapes.mono hK).slice .i64 (i := (j : Int)) (by omega) (by omega) (ti := ty52) rfl
        have e : s.tapes.getD (j : Int).toNat [] = s.tapes[j] := by simp [hil]
        rw [e] at a3
        have one : RCalls Tryd.prog 87 [u, ptrTo i] K (Dec (¬ ∀ x ∈ s.tapes[j], x < s.P) K) := by
          apply call87
          unfold m87
          exact oRC_ret (bigs_spec hs hK a3) fun r H' hr => hr
        refine oV_eq a1 (oV_eq a2 (oCl_ret rfl one fun r H' hr => ?_))
        obtain ⟨hl, b, rfl, hb⟩ := hr
        cases b with
        | true => exact condK_true ⟨hK.trans hl, j, rfl, ⟨fun _ h => hb.1 rfl (h _ (List.getElem_mem hil)), fun _ => by omega⟩⟩
        | false =>
          refine condK_false (oV_eq (vInt_add _ _ _) ?_)
          rw [wrap_i64 (by omega) (by omega)]
          refine ih (j + 1) H' (hK.trans hl) (by omega) (by omega) fun x hx => ?_
          rw [List.take_succ_eq_append_getElem hil] at hx
          rcases List.mem_append.1 hx with hx | hx
          · exact ha x hx
          · rw [List.mem_singleton.1 hx]
            exact Classical.byContradiction fun h => by have := hb.2 h; cases this
    exact key _ 0 H (Le.refl _) rfl (by omega) (by simp)
  refine oRC_ret idx fun r H' hr => ?_
  obtain ⟨hl, n, rfl, hn⟩ := hr
  exact oV_eq (vInt_geq _ _ _) (dec_dec hl hn)
theorem pdevs_spec (hs : SAt H i s cv dv tv) (hok : ScnOk H s cv dv tv) (hk : ∀ d ∈ s.devs, 0 ≤ d.k ∧ d.k ≤ 18446744073709551615) : RCalls Tryd.prog 83 [dv, .func (.func 84) #[] #[ptrTo i]] H (Dec (¬ ∀ d ∈ s.devs, devOk s.N d) H) := by
  have hm := hok.devs.max
  apply call83
  unfold m83
  have idx : RCalls Tryd.prog 113 [dv, .func (.func 84) #[] #[ptrTo i]] H (Ret fun r H' => Le H H' ∧ ∃ n : Int, r = .int .i64 n ∧ (0 ≤ n ↔ ¬ ∀ d ∈ s.devs, devOk s.N d)) := by
    apply call113
    unfold m113 m113_2
    refine oV_eq hok.devs.len ?_
    have key : ∀ (n j : Nat) (K : Heap), Le H K → s.devs.length - j = n → j ≤ s.devs.length → (∀ d ∈ s.devs.take j, devOk s.N d) → L113_3 dv (.func (.func 84) #[] #[ptrTo i]) (.int .i64 s.devs.length) (.int .i64 j) K (fun H_8 => m113_1 H_8 (Ret fun r H' => Le H H' ∧ ∃ n : Int, r = .int .i64 n ∧ (0 ≤ n ↔ ¬ ∀ d ∈ s.devs, devOk s.N d))) (Ret fun r H' => Le H H' ∧ ∃ n : Int, r = .int .i64 n ∧ (0 ≤ n ↔ ¬ ∀ d ∈ s.devs, devOk s.N d)) := by
      intro d
      induction d with
      | zero =>
        intro j K hK hd hi ha
        apply L113_3_round
        unfold m113_4
        refine oV_eq (vInt_lss _ _ _) (condK_dec (fun hlt => absurd hlt (by omega)) (fun _ => ?_))
        unfold m113_1
        rw [List.take_of_length_le (by omega)] at ha
        exact ⟨hK, -1, rfl, ⟨fun h => absurd h (by omega), fun h => absurd ha h⟩⟩
      | succ d ih =>
        intro j K hK hd hi ha
        apply L113_3_round
        unfold m113_4
        refine oV_eq (vInt_lss _ _ _) (condK_dec (fun hlt => ?_) (fun hlt => absurd (by omega) hlt))
        have hil : j < s.devs.length := by omega
        obtain ⟨q, f1, f2⟩ := (hok.devs.mono hK).dev hil
        have hkd := hk _ (List.getElem_mem hil)
        have one : RCalls Tryd.prog 84 [s.devs[j].val, ptrTo i] K (Dec (¬ devOk s.N s.devs[j]) K) := by
          apply call84
          unfold m84
          refine dev_new s.devs[j] fun i2 H2 l2 hd => ?_
          refine oV_eq (vField_to _ _) (oV_eq ((hs.mono hK).mono l2).par (oV_eq hd.all (oRC_ret (lie_spec H2 s _ hkd.1 hkd.2) fun r H' hr => ?_)))
          obtain ⟨hl, b, rfl, hb⟩ := hr
          cases b with
          | true => exact oV_eq (v := .bool false) rfl (dec_no (l2.trans hl) fun h => h (hb.1 rfl))
          | false => exact oV_eq (v := .bool true) rfl (dec_yes (l2.trans hl) fun h => by have := hb.2 h; cases this)
        refine oV_eq f1 (oV_eq f2 (oCl_ret rfl one fun r H' hr => ?_))
        obtain ⟨hl, b, rfl, hb⟩ := hr
        cases b with
        | true => exact condK_true ⟨hK.trans hl, j, rfl, ⟨fun _ h => hb.1 rfl (h _ (List.getElem_mem hil)), fun _ => by omega⟩⟩
        | false =>
          refine condK_false (oV_eq (vInt_add _ _ _) ?_)
          rw [wrap_i64 (by omega) (by omega)]
          refine ih (j + 1) H' (hK.trans hl) (by omega) (by omega) fun x hx => ?_
          rw [List.take_succ_eq_append_getElem hil] at hx
          rcases List.mem_append.1 hx with hx | hx
          · exact ha x hx
          · rw [List.mem_singleton.1 hx]
            exact Classical.byContradiction fun h => by have := hb.2 h; cases this
    exact key _ 0 H (Le.refl _) rfl (by omega) (by simp)
  refine oRC_ret idx fun r H' hr => ?_
  obtain ⟨hl, n, rfl, hn⟩ := hr
  exact oV_eq (vInt_geq _ _ _) (dec_dec hl hn)
theorem pscn_spec (hG : GL H) (hok : ScnOk H s cv dv tv) (hk : ∀ d ∈ s.devs, 0 ≤ d.k ∧ d.k ≤ 18446744073709551615) : RCalls Tryd.prog 52 [scnVal s cv dv tv] H (Dec (ScnV s) H) := by
  apply call52
  unfold m52
  refine scn_new s cv dv tv fun i H1 l1 hs => ?_
  refine oV_eq (vField_to _ _) (oV_eq hs.par (oV_eq (vField_to _ _) (oV_eq hs.c (oRC_ret (pcoal_spec (hok.bad.mono l1) s (hG.mono l1)) fun r H2 hr => ?_))))
  obtain ⟨l2, b, rfl, hb⟩ := hr
  replace hs := hs.mono l2
  have l := l1.trans l2
  cases b with
  | false => exact gK_TF (condK_true (dec_no l fun h => by have := hb.2 ⟨h.par, h.coal⟩; cases this))
  | true =>
    refine oV_eq (v := .bool false) rfl (oV_eq (v := .pointer (some ⟨i, 5, none⟩)) rfl (oV_eq (v := tv) hs.t (oV_eq (v := .int .i64 s.tapes.length) hok.tapes.len (oV_eq (v := .pointer (some ⟨i, 0, none⟩)) rfl (oV_eq (v := .pointer (some ⟨i, 1, none⟩)) rfl (oV_eq (v := .int .i64 s.N) hs.n (oV_eq (v := .bool (decide ((s.tapes.length : Int) ≠ s.N))) (vInt_neq .i64 (s.tapes.length : Int) s.N) (oV_eq (v := .bool (decide ((s.tapes.length : Int) ≠ s.N))) rfl ?_))))))))
    by_cases c : (s.tapes.length : Int) ≠ s.N
    · rw [decide_eq_true c]
      exact gK_TF (condK_true (dec_no l fun h => c h.len))
    rw [decide_eq_false c]
    have c : (s.tapes.length : Int) = s.N := by simpa using c
    refine oV_eq (v := .pointer (some ⟨i, 4, none⟩)) rfl (oV_eq (v := dv) hs.ds (oV_eq (v := .func (.func 84) #[] #[ptrTo i]) rfl ?_))
    refine gK_FF (oRC_ret (pdevs_spec hs (hok.mono l) hk) fun r H3 hr => ?_)
    obtain ⟨l3, b2, rfl, hb2⟩ := hr
    replace hs := hs.mono l3
    replace l := l.trans l3
    cases b2 with
    | true => exact oV_eq (v := .bool true) rfl (condK_true (dec_no l fun h => hb2.1 rfl h.devs))
    | false =>
      refine oV_eq (v := .bool false) rfl (condK_false (oV_eq (vField_to _ _) (oV_eq hs.t (oRC_ret (ptapes_spec hs (hok.mono l)) fun r H4 hr => ?_))))
      obtain ⟨l4, b3, rfl, hb3⟩ := hr
      have hd : ∀ d ∈ s.devs, devOk s.N d := Classical.byContradiction fun h => by have := hb2.2 h; cases this
      cases b3 with
      | true => exact oV_eq (v := .bool false) rfl (dec_no (l.trans l4) fun h => hb3.1 rfl h.tapes)
      | false => exact oV_eq (v := .bool true) rfl (dec_yes (l.trans l4) ⟨(hb.1 rfl).1, (hb.1 rfl).2, c, hd, Classical.byContradiction fun h => by have := hb3.2 h; cases this⟩)
end
end Go.Proofs.YtchhpagkdaaglaaDoor.SL
