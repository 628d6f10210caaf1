/- Part 26 of the proof of LawCp: VdT, one behind the other. -/
import Derived.Test.YtchhpagkdaaglaaDoorCpe
set_option linter.unusedVariables false
set_option linter.unusedSimpArgs false
namespace Go.Proofs.YtchhpagkdaaglaaDoor.SL
open Go

section
variable {H H0 G : Heap} {i1 i3 i6 : Nat} {s : Scn} {q : List (List (List Int))} {cv dv tv qv Sv Rv Fv : Value} {k i j : Nat}
def Agr (s : Scn) (q : List (List (List Int))) (k i j c : Nat) : Prop := ∀ c', c' < c → evalP s.P ((j : Int) + 1) ((((dRows s q).getD i []).getD k []).getD c' []) = evalP s.P ((i : Int) + 1) ((((dRows s q).getD j []).getD k []).getD c' [])
theorem flag_agr (h : DealOk s q) (hk : k < s.n) (hi : i < s.n) (hj : j < s.n) (hij : j ≠ i) (h1 : (i : Int) + 1 ∉ s.bad) (h2 : (j : Int) + 1 ∉ s.bad) {b : Bool} (hb : b = true ↔ Agr s q k i j (q.getD k []).length) :
    (((dFlags s q).getD i []).getD k []).getD j 0 = (if b then 0 else 1) ∧ (((dFlags s q).getD j []).getD k []).getD i 0 = (if b then 0 else 1) := by
  rw [flag_honest h hk hi hj hij h1 h2, flag_honest h hk hj hi (Ne.symm hij) h2 h1]
  cases b with
  | true =>
    have ha := hb.1 rfl
    have n1 : ¬ ∃ c, c < (q.getD k []).length ∧ evalP s.P ((i : Int) + 1) ((((dRows s q).getD j []).getD k []).getD c []) ≠ evalP s.P ((j : Int) + 1) ((((dRows s q).getD i []).getD k []).getD c []) := fun ⟨c, hc, hne⟩ => hne (ha c hc).symm
    have n2 : ¬ ∃ c, c < (q.getD k []).length ∧ evalP s.P ((j : Int) + 1) ((((dRows s q).getD i []).getD k []).getD c []) ≠ evalP s.P ((i : Int) + 1) ((((dRows s q).getD j []).getD k []).getD c []) := fun ⟨c, hc, hne⟩ => hne (ha c hc)
    exact ⟨if_neg n1, if_neg n2⟩
  | false =>
    have ha : ∃ c, c < (q.getD k []).length ∧ evalP s.P ((j : Int) + 1) ((((dRows s q).getD i []).getD k []).getD c []) ≠ evalP s.P ((i : Int) + 1) ((((dRows s q).getD j []).getD k []).getD c []) := by
      apply Classical.byContradiction
      intro hno
      have : false = true := hb.2 fun c hc => Classical.byContradiction fun hne => hno ⟨c, hc, hne⟩
      cases this
    obtain ⟨c, hc, hne⟩ := ha
    exact ⟨if_pos ⟨c, hc, fun e => hne e.symm⟩, if_pos ⟨c, hc, hne⟩⟩
theorem cp_agree (hD : DealOk s q) (hB : LAt H i1 i3 i6 s q cv dv tv qv Sv Rv Fv) (hk : k < s.n) (hi : i < s.n) (hj : j < s.n) {kn : Value → Value → Value → Value → Value → Value → Value → Heap → Prop} {kx5 kx4 kx3 kx2 kx1 kx0} (hkn : ∀ b : Bool, (b = true ↔ Agr s q k i j (q.getD k []).length) → kn (ptrTo i1) (ptrTo i3) (ptrTo i6) (.int .i64 k) (.int .i64 i) (.int .i64 j) (.bool b) H) :
    ∀ (d c : Nat) (b : Bool), (q.getD k []).length - c = d → c ≤ (q.getD k []).length → (b = true ↔ Agr s q k i j c) → L7_20 (ptrTo i1) (ptrTo i3) (ptrTo i6) (.int .i64 k) (.int .i64 i) (.int .i64 j) (.bool b) (.int .i64 c) H kn kx5 kx4 kx3 kx2 kx1 kx0 Yes := by
  obtain ⟨hn, hqn, hn7, hn4⟩ := hD.n
  have hsh := shape_ok hD
  have hp := hD.pos
  have hq3 := hD.q3 k (by omega)
  have eq : q.getD k [] = q[k]'(by omega) := getD_lt (by omega)
  have eql := congrArg List.length eq
  obtain ⟨hsp, _⟩ := hD.v.par
  obtain ⟨p3, u3, c1, c2, c3⟩ := hB.ok.q.row (i := k) (by omega) (ti := ty27) rfl
  rw [← eq] at c3
  intro d
  induction d with
  | zero =>
    intro c b hd hc hb
    apply L7_20_round
    unfold m7_21
    (repeat (first | refine oV_eq (gV_skipF _) ?_ | refine oV_eq (gV_skipT _) ?_ | refine oV_eq (pick_T _ _) ?_ | refine oV_eq (pick_F _ _) ?_ | refine oV_eq (by (try with_reducible refine gV_F ?_); (try with_reducible refine gV_T ?_); first | exact hB.z.qq | exact c1 | exact c2 | exact c3.len | exact vField_to _ _ | exact vField_ptr _ _ _ | exact vNil_to _ | exact vNil_ptr _ | exact vInt_eql _ _ _ | exact vInt_neq _ _ _ | exact vInt_lss _ _ _ | exact vInt_leq _ _ _ | exact vInt_gtr _ _ _ | exact vInt_geq _ _ _ | exact i64_add (by omega) (by omega) | exact i64_sub (by omega) (by omega) | exact vUn_not _ | exact vLen_slice _ _ _ | exact vConv_int _ _ _) ?_ | refine oV_eq (gV_F rfl) ?_ | refine oV_eq (gV_T rfl) ?_))
    refine condK_dec (fun hlt => absurd hlt (by omega)) (fun _ => hkn b ?_)
    rwa [show (q.getD k []).length = c by omega]
  | succ d ih =>
    intro c b hd hc hb
    apply L7_20_round
    unfold m7_21
    (repeat (first | refine oV_eq (gV_skipF _) ?_ | refine oV_eq (gV_skipT _) ?_ | refine oV_eq (pick_T _ _) ?_ | refine oV_eq (pick_F _ _) ?_ | refine oV_eq (by (try with_reducible refine gV_F ?_); (try with_reducible refine gV_T ?_); first | exact hB.z.qq | exact c1 | exact c2 | exact c3.len | exact vField_to _ _ | exact vField_ptr _ _ _ | exact vNil_to _ | exact vNil_ptr _ | exact vInt_eql _ _ _ | exact vInt_neq _ _ _ | exact vInt_lss _ _ _ | exact vInt_leq _ _ _ | exact vInt_gtr _ _ _ | exact vInt_geq _ _ _ | exact i64_add (by omega) (by omega) | exact i64_sub (by omega) (by omega) | exact vUn_not _ | exact vLen_slice _ _ _ | exact vConv_int _ _ _) ?_ | refine oV_eq (gV_F rfl) ?_ | refine oV_eq (gV_T rfl) ?_))
    refine condK_dec (fun hlt => ?_) (fun hlt => absurd (by omega) hlt)
    cases b with
    | false =>
      (repeat (first | refine oV_eq (gV_skipF _) ?_ | refine oV_eq (gV_skipT _) ?_ | refine oV_eq (pick_T _ _) ?_ | refine oV_eq (pick_F _ _) ?_ | refine oV_eq (by (try with_reducible refine gV_F ?_); (try with_reducible refine gV_T ?_); first | exact vField_to _ _ | exact vField_ptr _ _ _ | exact vNil_to _ | exact vNil_ptr _ | exact vInt_eql _ _ _ | exact vInt_neq _ _ _ | exact vInt_lss _ _ _ | exact vInt_leq _ _ _ | exact vInt_gtr _ _ _ | exact vInt_geq _ _ _ | exact i64_add (by omega) (by omega) | exact i64_sub (by omega) (by omega) | exact vUn_not _ | exact vLen_slice _ _ _ | exact vConv_int _ _ _) ?_ | refine oV_eq (gV_F rfl) ?_ | refine oV_eq (gV_T rfl) ?_))
      refine gK_FT ⟨rfl, rfl, rfl, rfl, rfl, gK_FT ?_⟩
      (repeat (first | refine oV_eq (gV_skipF _) ?_ | refine oV_eq (gV_skipT _) ?_ | refine oV_eq (pick_T _ _) ?_ | refine oV_eq (pick_F _ _) ?_ | refine oV_eq (by (try with_reducible refine gV_F ?_); (try with_reducible refine gV_T ?_); first | exact add_one (a := c) (by omega) | exact vField_to _ _ | exact vField_ptr _ _ _ | exact vNil_to _ | exact vNil_ptr _ | exact vInt_eql _ _ _ | exact vInt_neq _ _ _ | exact vInt_lss _ _ _ | exact vInt_leq _ _ _ | exact vInt_gtr _ _ _ | exact vInt_geq _ _ _ | exact i64_add (by omega) (by omega) | exact i64_sub (by omega) (by omega) | exact vUn_not _ | exact vLen_slice _ _ _ | exact vConv_int _ _ _) ?_ | refine oV_eq (gV_F rfl) ?_ | refine oV_eq (gV_T rfl) ?_))
      refine ih (c + 1) false (by omega) (by omega) ⟨fun h => (by cases h), fun h => ?_⟩
      exact hb.2 fun c' hc' => h c' (by omega)
    | true =>
      have hrl := hsh.rl
      obtain ⟨p1, u1, a1, a2, a3⟩ := hB.R.row (i := i) (by omega) (ti := ty44) rfl
      have r1 := hsh.ri i (by omega)
      obtain ⟨p2, u2, b1, b2, b3⟩ := a3.row (i := k) (by omega) (ti := ty27) rfl
      have r2 := hsh.rij i k (by omega) (by omega) (by omega)
      obtain ⟨p4, u4, d1, d2, d3⟩ := b3.row (i := c) (by omega) (ti := ty52) rfl
      obtain ⟨p5, u5, e1, e2, e3⟩ := hB.R.row (i := j) (by omega) (ti := ty44) rfl
      have r3 := hsh.ri j (by omega)
      obtain ⟨p6, u6, f1, f2, f3⟩ := e3.row (i := k) (by omega) (ti := ty27) rfl
      have r4 := hsh.rij j k (by omega) (by omega) (by omega)
      obtain ⟨p7, u7, g1, g2, g3⟩ := f3.row (i := c) (by omega) (ti := ty52) rfl
      have x1 : (dRows s q)[i][k][c] = (((dRows s q).getD i []).getD k []).getD c [] := getD3 (by omega) (by omega) (by omega)
      have x2 : (dRows s q)[j][k][c] = (((dRows s q).getD j []).getD k []).getD c [] := getD3 (by omega) (by omega) (by omega)
      have rg : ∀ a, a < s.n → c < (((dRows s q).getD a []).getD k []).length → rng s.P ((((dRows s q).getD a []).getD k []).getD c []) := fun a ha hl => by
        rw [getD_lt hl]
        exact (hD.rok a ha).rg k (by omega) _ (List.getElem_mem hl)
      have g1' := rg i hi (by rw [(hD.rok i hi).few k (by omega)]; omega)
      have g2' := rg j hj (by rw [(hD.rok j hj).few k (by omega)]; omega)
      rw [x1] at d3
      rw [x2] at g3
      (repeat (first | refine oV_eq (gV_skipF _) ?_ | refine oV_eq (gV_skipT _) ?_ | refine oV_eq (pick_T _ _) ?_ | refine oV_eq (pick_F _ _) ?_ | refine oV_eq (by (try with_reducible refine gV_F ?_); (try with_reducible refine gV_T ?_); first | exact hB.st.lR | exact a1 | exact a2 | exact b1 | exact b2 | exact d1 | exact d2 | exact hB.sc.p | exact e1 | exact e2 | exact f1 | exact f2 | exact g1 | exact g2 | exact add_one (a := i) (by omega) | exact add_one (a := j) (by omega) | exact conv_u64 (x := ((i + 1 : Nat) : Int)) (by omega) (by omega) | exact conv_u64 (x := ((j + 1 : Nat) : Int)) (by omega) (by omega) | exact vField_to _ _ | exact vField_ptr _ _ _ | exact vNil_to _ | exact vNil_ptr _ | exact vInt_eql _ _ _ | exact vInt_neq _ _ _ | exact vInt_lss _ _ _ | exact vInt_leq _ _ _ | exact vInt_gtr _ _ _ | exact vInt_geq _ _ _ | exact i64_add (by omega) (by omega) | exact i64_sub (by omega) (by omega) | exact vUn_not _ | exact vLen_slice _ _ _ | exact vConv_int _ _ _) ?_ | refine oV_eq (gV_F rfl) ?_ | refine oV_eq (gV_T rfl) ?_))
      refine gK_TT (oRC_val (value_spec d3 hsp g1' (by omega) (by omega)) ⟨gV_T g2, gV_T f2, gV_T e2, gV_T hB.st.lR, gV_T hB.sc.p, gK_TT (oRC_val (value_spec g3 hsp g2' (by omega) (by omega)) ?_)⟩)
      (repeat (first | refine oV_eq (gV_skipF _) ?_ | refine oV_eq (gV_skipT _) ?_ | refine oV_eq (pick_T _ _) ?_ | refine oV_eq (pick_F _ _) ?_ | refine oV_eq (by (try with_reducible refine gV_F ?_); (try with_reducible refine gV_T ?_); first | exact vInt_eql .u64 (evalP s.P ((j + 1 : Nat) : Int) ((((dRows s q).getD i []).getD k []).getD c [])) (evalP s.P ((i + 1 : Nat) : Int) ((((dRows s q).getD j []).getD k []).getD c [])) | exact add_one (a := c) (by omega) | exact vField_to _ _ | exact vField_ptr _ _ _ | exact vNil_to _ | exact vNil_ptr _ | exact vInt_eql _ _ _ | exact vInt_neq _ _ _ | exact vInt_lss _ _ _ | exact vInt_leq _ _ _ | exact vInt_gtr _ _ _ | exact vInt_geq _ _ _ | exact i64_add (by omega) (by omega) | exact i64_sub (by omega) (by omega) | exact vUn_not _ | exact vLen_slice _ _ _ | exact vConv_int _ _ _) ?_ | refine oV_eq (gV_F rfl) ?_ | refine oV_eq (gV_T rfl) ?_))
      refine ih (c + 1) _ (by omega) (by omega) ⟨fun h c' hc' => ?_, fun h => decide_eq_true (h c (by omega))⟩
      by_cases e : c' = c
      · subst e
        exact of_decide_eq_true h
      · exact hb.1 rfl c' (by omega)
theorem cp_inner (hD : DealOk s q) (hA : LAt H0 i1 i3 i6 s q cv dv tv qv Sv Rv Fv) (hk : k < s.n) (hi : i < s.n) {kn : Value → Value → Value → Value → Value → Heap → Prop} {kx3 kx2 kx1 kx0} (hkn : ∀ H, Le H0 H → kn (ptrTo i1) (ptrTo i3) (ptrTo i6) (.int .i64 k) (.int .i64 i) H) :
    ∀ (d j : Nat) (H : Heap), s.n - j = d → j ≤ s.n → Le H0 H → L7_13 (ptrTo i1) (ptrTo i3) (ptrTo i6) (.int .i64 k) (.int .i64 i) (.int .i64 j) H kn kx3 kx2 kx1 kx0 Yes := by
  obtain ⟨hn, hqn, hn7, hn4⟩ := hD.n
  have hsh := shape_ok hD
  intro d
  induction d with
  | zero =>
    intro j H hd hj l
    apply L7_13_round
    unfold m7_14
    (repeat (first | refine oV_eq (gV_skipF _) ?_ | refine oV_eq (gV_skipT _) ?_ | refine oV_eq (pick_T _ _) ?_ | refine oV_eq (pick_F _ _) ?_ | refine oV_eq (by (try with_reducible refine gV_F ?_); (try with_reducible refine gV_T ?_); first | exact (hA.mono l).sc.n | exact vField_to _ _ | exact vField_ptr _ _ _ | exact vNil_to _ | exact vNil_ptr _ | exact vInt_eql _ _ _ | exact vInt_neq _ _ _ | exact vInt_lss _ _ _ | exact vInt_leq _ _ _ | exact vInt_gtr _ _ _ | exact vInt_geq _ _ _ | exact i64_add (by omega) (by omega) | exact i64_sub (by omega) (by omega) | exact vUn_not _ | exact vLen_slice _ _ _ | exact vConv_int _ _ _) ?_ | refine oV_eq (gV_F rfl) ?_ | refine oV_eq (gV_T rfl) ?_))
    refine condK_dec (fun hlt => absurd hlt (by omega)) (fun _ => hkn H l)
  | succ d ih =>
    intro j H hd hj l
    apply L7_13_round
    unfold m7_14
    (repeat (first | refine oV_eq (gV_skipF _) ?_ | refine oV_eq (gV_skipT _) ?_ | refine oV_eq (pick_T _ _) ?_ | refine oV_eq (pick_F _ _) ?_ | refine oV_eq (by (try with_reducible refine gV_F ?_); (try with_reducible refine gV_T ?_); first | exact (hA.mono l).sc.n | exact vField_to _ _ | exact vField_ptr _ _ _ | exact vNil_to _ | exact vNil_ptr _ | exact vInt_eql _ _ _ | exact vInt_neq _ _ _ | exact vInt_lss _ _ _ | exact vInt_leq _ _ _ | exact vInt_gtr _ _ _ | exact vInt_geq _ _ _ | exact i64_add (by omega) (by omega) | exact i64_sub (by omega) (by omega) | exact vUn_not _ | exact vLen_slice _ _ _ | exact vConv_int _ _ _) ?_ | refine oV_eq (gV_F rfl) ?_ | refine oV_eq (gV_T rfl) ?_))
    refine condK_dec (fun hlt => ?_) (fun hlt => absurd (by omega) hlt)
    unfold m7_16 m7_17
    have nxt : ∀ K, Le H0 K → m7_15 (ptrTo i1) (ptrTo i3) (ptrTo i6) (.int .i64 k) (.int .i64 i) (.int .i64 j) K (fun y1 y3 y6 y7 y8 y9 H => L7_13 y1 y3 y6 y7 y8 y9 H kn kx3 kx2 kx1 kx0 Yes) kn kx3 kx2 kx1 kx0 Yes := fun K lK => by
      unfold m7_15
      (repeat (first | refine oV_eq (gV_skipF _) ?_ | refine oV_eq (gV_skipT _) ?_ | refine oV_eq (pick_T _ _) ?_ | refine oV_eq (pick_F _ _) ?_ | refine oV_eq (by (try with_reducible refine gV_F ?_); (try with_reducible refine gV_T ?_); first | exact add_one (a := j) (by omega) | exact vField_to _ _ | exact vField_ptr _ _ _ | exact vNil_to _ | exact vNil_ptr _ | exact vInt_eql _ _ _ | exact vInt_neq _ _ _ | exact vInt_lss _ _ _ | exact vInt_leq _ _ _ | exact vInt_gtr _ _ _ | exact vInt_geq _ _ _ | exact i64_add (by omega) (by omega) | exact i64_sub (by omega) (by omega) | exact vUn_not _ | exact vLen_slice _ _ _ | exact vConv_int _ _ _) ?_ | refine oV_eq (gV_F rfl) ?_ | refine oV_eq (gV_T rfl) ?_))
      exact ih (j + 1) K (by omega) (by omega) lK
    refine oV_eq (vInt_eql .i64 (i : Int) (j : Int)) ?_
    by_cases hij : (i : Int) = j
    · rw [decide_eq_true hij]
      (repeat (first | refine oV_eq (gV_skipF _) ?_ | refine oV_eq (gV_skipT _) ?_ | refine oV_eq (pick_T _ _) ?_ | refine oV_eq (pick_F _ _) ?_ | refine oV_eq (by (try with_reducible refine gV_F ?_); (try with_reducible refine gV_T ?_); first | exact vField_to _ _ | exact vField_ptr _ _ _ | exact vNil_to _ | exact vNil_ptr _ | exact vInt_eql _ _ _ | exact vInt_neq _ _ _ | exact vInt_lss _ _ _ | exact vInt_leq _ _ _ | exact vInt_gtr _ _ _ | exact vInt_geq _ _ _ | exact i64_add (by omega) (by omega) | exact i64_sub (by omega) (by omega) | exact vUn_not _ | exact vLen_slice _ _ _ | exact vConv_int _ _ _) ?_ | refine oV_eq (gV_F rfl) ?_ | refine oV_eq (gV_T rfl) ?_))
      refine gK_TF ?_
      (repeat (first | refine oV_eq (gV_skipF _) ?_ | refine oV_eq (gV_skipT _) ?_ | refine oV_eq (pick_T _ _) ?_ | refine oV_eq (pick_F _ _) ?_ | refine oV_eq (by (try with_reducible refine gV_F ?_); (try with_reducible refine gV_T ?_); first | exact vField_to _ _ | exact vField_ptr _ _ _ | exact vNil_to _ | exact vNil_ptr _ | exact vInt_eql _ _ _ | exact vInt_neq _ _ _ | exact vInt_lss _ _ _ | exact vInt_leq _ _ _ | exact vInt_gtr _ _ _ | exact vInt_geq _ _ _ | exact i64_add (by omega) (by omega) | exact i64_sub (by omega) (by omega) | exact vUn_not _ | exact vLen_slice _ _ _ | exact vConv_int _ _ _) ?_ | refine oV_eq (gV_F rfl) ?_ | refine oV_eq (gV_T rfl) ?_))
      refine gK_TF ?_
      (repeat (first | refine oV_eq (gV_skipF _) ?_ | refine oV_eq (gV_skipT _) ?_ | refine oV_eq (pick_T _ _) ?_ | refine oV_eq (pick_F _ _) ?_ | refine oV_eq (by (try with_reducible refine gV_F ?_); (try with_reducible refine gV_T ?_); first | exact vField_to _ _ | exact vField_ptr _ _ _ | exact vNil_to _ | exact vNil_ptr _ | exact vInt_eql _ _ _ | exact vInt_neq _ _ _ | exact vInt_lss _ _ _ | exact vInt_leq _ _ _ | exact vInt_gtr _ _ _ | exact vInt_geq _ _ _ | exact i64_add (by omega) (by omega) | exact i64_sub (by omega) (by omega) | exact vUn_not _ | exact vLen_slice _ _ _ | exact vConv_int _ _ _) ?_ | refine oV_eq (gV_F rfl) ?_ | refine oV_eq (gV_T rfl) ?_))
      exact condK_true (nxt H l)
    rw [decide_eq_false hij]
    (repeat (first | refine oV_eq (gV_skipF _) ?_ | refine oV_eq (gV_skipT _) ?_ | refine oV_eq (pick_T _ _) ?_ | refine oV_eq (pick_F _ _) ?_ | refine oV_eq (by (try with_reducible refine gV_F ?_); (try with_reducible refine gV_T ?_); first | exact (hA.mono l).sc.all | exact add_one (a := i) (by omega) | exact vField_to _ _ | exact vField_ptr _ _ _ | exact vNil_to _ | exact vNil_ptr _ | exact vInt_eql _ _ _ | exact vInt_neq _ _ _ | exact vInt_lss _ _ _ | exact vInt_leq _ _ _ | exact vInt_gtr _ _ _ | exact vInt_geq _ _ _ | exact i64_add (by omega) (by omega) | exact i64_sub (by omega) (by omega) | exact vUn_not _ | exact vLen_slice _ _ _ | exact vConv_int _ _ _) ?_ | refine oV_eq (gV_F rfl) ?_ | refine oV_eq (gV_T rfl) ?_))
    refine gK_FF (oRC_grow (honest_spec ((hA.mono l).ok.s.bad) ((i + 1 : Nat) : Int)) fun H2 l2 => ?_)
    have lH := l.trans l2
    by_cases hb : ((i + 1 : Nat) : Int) ∈ s.bad
    · rw [decide_eq_false (fun h => h hb)]
      (repeat (first | refine oV_eq (gV_skipF _) ?_ | refine oV_eq (gV_skipT _) ?_ | refine oV_eq (pick_T _ _) ?_ | refine oV_eq (pick_F _ _) ?_ | refine oV_eq (by (try with_reducible refine gV_F ?_); (try with_reducible refine gV_T ?_); first | exact vField_to _ _ | exact vField_ptr _ _ _ | exact vNil_to _ | exact vNil_ptr _ | exact vInt_eql _ _ _ | exact vInt_neq _ _ _ | exact vInt_lss _ _ _ | exact vInt_leq _ _ _ | exact vInt_gtr _ _ _ | exact vInt_geq _ _ _ | exact i64_add (by omega) (by omega) | exact i64_sub (by omega) (by omega) | exact vUn_not _ | exact vLen_slice _ _ _ | exact vConv_int _ _ _) ?_ | refine oV_eq (gV_F rfl) ?_ | refine oV_eq (gV_T rfl) ?_))
      refine gK_TF ?_
      (repeat (first | refine oV_eq (gV_skipF _) ?_ | refine oV_eq (gV_skipT _) ?_ | refine oV_eq (pick_T _ _) ?_ | refine oV_eq (pick_F _ _) ?_ | refine oV_eq (by (try with_reducible refine gV_F ?_); (try with_reducible refine gV_T ?_); first | exact vField_to _ _ | exact vField_ptr _ _ _ | exact vNil_to _ | exact vNil_ptr _ | exact vInt_eql _ _ _ | exact vInt_neq _ _ _ | exact vInt_lss _ _ _ | exact vInt_leq _ _ _ | exact vInt_gtr _ _ _ | exact vInt_geq _ _ _ | exact i64_add (by omega) (by omega) | exact i64_sub (by omega) (by omega) | exact vUn_not _ | exact vLen_slice _ _ _ | exact vConv_int _ _ _) ?_ | refine oV_eq (gV_F rfl) ?_ | refine oV_eq (gV_T rfl) ?_))
      exact condK_true (nxt H2 lH)
    rw [decide_eq_true hb]
    have h1 : (i : Int) + 1 ∉ s.bad := by simpa using hb
    (repeat (first | refine oV_eq (gV_skipF _) ?_ | refine oV_eq (gV_skipT _) ?_ | refine oV_eq (pick_T _ _) ?_ | refine oV_eq (pick_F _ _) ?_ | refine oV_eq (by (try with_reducible refine gV_F ?_); (try with_reducible refine gV_T ?_); first | exact (hA.mono lH).sc.all | exact add_one (a := j) (by omega) | exact vField_to _ _ | exact vField_ptr _ _ _ | exact vNil_to _ | exact vNil_ptr _ | exact vInt_eql _ _ _ | exact vInt_neq _ _ _ | exact vInt_lss _ _ _ | exact vInt_leq _ _ _ | exact vInt_gtr _ _ _ | exact vInt_geq _ _ _ | exact i64_add (by omega) (by omega) | exact i64_sub (by omega) (by omega) | exact vUn_not _ | exact vLen_slice _ _ _ | exact vConv_int _ _ _) ?_ | refine oV_eq (gV_F rfl) ?_ | refine oV_eq (gV_T rfl) ?_))
    refine gK_FF (oRC_grow (honest_spec ((hA.mono lH).ok.s.bad) ((j + 1 : Nat) : Int)) fun H3 l3 => ?_)
    have lK := lH.trans l3
    by_cases hc : ((j + 1 : Nat) : Int) ∈ s.bad
    · rw [decide_eq_false (fun h => h hc)]
      (repeat (first | refine oV_eq (gV_skipF _) ?_ | refine oV_eq (gV_skipT _) ?_ | refine oV_eq (pick_T _ _) ?_ | refine oV_eq (pick_F _ _) ?_ | refine oV_eq (by (try with_reducible refine gV_F ?_); (try with_reducible refine gV_T ?_); first | exact vField_to _ _ | exact vField_ptr _ _ _ | exact vNil_to _ | exact vNil_ptr _ | exact vInt_eql _ _ _ | exact vInt_neq _ _ _ | exact vInt_lss _ _ _ | exact vInt_leq _ _ _ | exact vInt_gtr _ _ _ | exact vInt_geq _ _ _ | exact i64_add (by omega) (by omega) | exact i64_sub (by omega) (by omega) | exact vUn_not _ | exact vLen_slice _ _ _ | exact vConv_int _ _ _) ?_ | refine oV_eq (gV_F rfl) ?_ | refine oV_eq (gV_T rfl) ?_))
      exact condK_true (nxt H3 lK)
    rw [decide_eq_true hc]
    have h2 : (j : Int) + 1 ∉ s.bad := by simpa using hc
    (repeat (first | refine oV_eq (gV_skipF _) ?_ | refine oV_eq (gV_skipT _) ?_ | refine oV_eq (pick_T _ _) ?_ | refine oV_eq (pick_F _ _) ?_ | refine oV_eq (by (try with_reducible refine gV_F ?_); (try with_reducible refine gV_T ?_); first | exact vField_to _ _ | exact vField_ptr _ _ _ | exact vNil_to _ | exact vNil_ptr _ | exact vInt_eql _ _ _ | exact vInt_neq _ _ _ | exact vInt_lss _ _ _ | exact vInt_leq _ _ _ | exact vInt_gtr _ _ _ | exact vInt_geq _ _ _ | exact i64_add (by omega) (by omega) | exact i64_sub (by omega) (by omega) | exact vUn_not _ | exact vLen_slice _ _ _ | exact vConv_int _ _ _) ?_ | refine oV_eq (gV_F rfl) ?_ | refine oV_eq (gV_T rfl) ?_))
    refine condK_false ?_
    unfold m7_19
    have hB := hA.mono lK
    refine cp_agree hD hB hk hi (by omega) (fun b hbb => ?_) _ 0 true rfl (by omega) ⟨fun _ c' h => absurd h (by omega), fun _ => rfl⟩
    unfold m7_18
    obtain ⟨y1, y2⟩ := flag_agr hD hk hi (by omega) (by omega) h1 h2 hbb
    have hfl := hsh.fl
    obtain ⟨p4, u4, d1, d2, d3⟩ := hB.F.row (i := i) (by omega) (ti := ty27) rfl
    have r3 := hsh.fi i (by omega)
    obtain ⟨p5, u5, e1, e2, e3⟩ := d3.row (i := k) (by omega) (ti := ty52) rfl
    have r4 := hsh.fij i k (by omega) (by omega)
    obtain ⟨p6, g1, g2⟩ := e3.word (i := j) (by omega) (ti := ty22) rfl
    obtain ⟨p7, u7, s1, s2, s3⟩ := hB.F.row (i := j) (by omega) (ti := ty27) rfl
    have r5 := hsh.fi j (by omega)
    obtain ⟨p8, u8, t1, t2, t3⟩ := s3.row (i := k) (by omega) (ti := ty52) rfl
    have r6 := hsh.fij j k (by omega) (by omega)
    obtain ⟨p9, w1, w2⟩ := t3.word (i := i) (by omega) (ti := ty22) rfl
    rw [getD3 (d := 0) (l := dFlags s q) (a := i) (b := k) (c := j) (by omega) (by omega) (by omega), y1] at g2
    rw [getD3 (d := 0) (l := dFlags s q) (a := j) (b := k) (c := i) (by omega) (by omega) (by omega), y2] at w2
    cases b with
    | true =>
      replace g2 : vLoad ty22 p6 H3 = some (.int .u64 0) := g2
      replace w2 : vLoad ty22 p9 H3 = some (.int .u64 0) := w2
      (repeat (first | refine oV_eq (gV_skipF _) ?_ | refine oV_eq (gV_skipT _) ?_ | refine oV_eq (pick_T _ _) ?_ | refine oV_eq (pick_F _ _) ?_ | refine oV_eq (by (try with_reducible refine gV_F ?_); (try with_reducible refine gV_T ?_); first | exact hB.st.lF | exact d1 | exact d2 | exact e1 | exact e2 | exact g1 | exact g2 | exact s1 | exact s2 | exact t1 | exact t2 | exact w1 | exact w2 | exact vField_to _ _ | exact vField_ptr _ _ _ | exact vNil_to _ | exact vNil_ptr _ | exact vInt_eql _ _ _ | exact vInt_neq _ _ _ | exact vInt_lss _ _ _ | exact vInt_leq _ _ _ | exact vInt_gtr _ _ _ | exact vInt_geq _ _ _ | exact i64_add (by omega) (by omega) | exact i64_sub (by omega) (by omega) | exact vUn_not _ | exact vLen_slice _ _ _ | exact vConv_int _ _ _) ?_ | refine oV_eq (gV_F rfl) ?_ | refine oV_eq (gV_T rfl) ?_))
      exact condK_false (nxt H3 lK)
    | false =>
      replace g2 : vLoad ty22 p6 H3 = some (.int .u64 1) := g2
      replace w2 : vLoad ty22 p9 H3 = some (.int .u64 1) := w2
      (repeat (first | refine oV_eq (gV_skipF _) ?_ | refine oV_eq (gV_skipT _) ?_ | refine oV_eq (pick_T _ _) ?_ | refine oV_eq (pick_F _ _) ?_ | refine oV_eq (by (try with_reducible refine gV_F ?_); (try with_reducible refine gV_T ?_); first | exact hB.st.lF | exact d1 | exact d2 | exact e1 | exact e2 | exact g1 | exact g2 | exact s1 | exact s2 | exact t1 | exact t2 | exact w1 | exact w2 | exact vField_to _ _ | exact vField_ptr _ _ _ | exact vNil_to _ | exact vNil_ptr _ | exact vInt_eql _ _ _ | exact vInt_neq _ _ _ | exact vInt_lss _ _ _ | exact vInt_leq _ _ _ | exact vInt_gtr _ _ _ | exact vInt_geq _ _ _ | exact i64_add (by omega) (by omega) | exact i64_sub (by omega) (by omega) | exact vUn_not _ | exact vLen_slice _ _ _ | exact vConv_int _ _ _) ?_ | refine oV_eq (gV_F rfl) ?_ | refine oV_eq (gV_T rfl) ?_))
      exact condK_false (nxt H3 lK)
theorem cp_parties (hD : DealOk s q) (hA : LAt H0 i1 i3 i6 s q cv dv tv qv Sv Rv Fv) (hk : k < s.n) {kn : Value → Value → Value → Value → Heap → Prop} {kx1 kx0} (hkn : ∀ H, Le H0 H → kn (ptrTo i1) (ptrTo i3) (ptrTo i6) (.int .i64 k) H) :
    ∀ (d i : Nat) (H : Heap), s.n - i = d → i ≤ s.n → Le H0 H → L7_8 (ptrTo i1) (ptrTo i3) (ptrTo i6) (.int .i64 k) (.int .i64 i) H kn kx1 kx0 Yes := by
  obtain ⟨hn, hqn, hn7, hn4⟩ := hD.n
  intro d
  induction d with
  | zero =>
    intro i H hd hi l
    apply L7_8_round
    unfold m7_9
    (repeat (first | refine oV_eq (gV_skipF _) ?_ | refine oV_eq (gV_skipT _) ?_ | refine oV_eq (pick_T _ _) ?_ | refine oV_eq (pick_F _ _) ?_ | refine oV_eq (by (try with_reducible refine gV_F ?_); (try with_reducible refine gV_T ?_); first | exact (hA.mono l).sc.n | exact vField_to _ _ | exact vField_ptr _ _ _ | exact vNil_to _ | exact vNil_ptr _ | exact vInt_eql _ _ _ | exact vInt_neq _ _ _ | exact vInt_lss _ _ _ | exact vInt_leq _ _ _ | exact vInt_gtr _ _ _ | exact vInt_geq _ _ _ | exact i64_add (by omega) (by omega) | exact i64_sub (by omega) (by omega) | exact vUn_not _ | exact vLen_slice _ _ _ | exact vConv_int _ _ _) ?_ | refine oV_eq (gV_F rfl) ?_ | refine oV_eq (gV_T rfl) ?_))
    refine condK_dec (fun hlt => absurd hlt (by omega)) (fun _ => hkn H l)
  | succ d ih =>
    intro i H hd hi l
    apply L7_8_round
    unfold m7_9
    (repeat (first | refine oV_eq (gV_skipF _) ?_ | refine oV_eq (gV_skipT _) ?_ | refine oV_eq (pick_T _ _) ?_ | refine oV_eq (pick_F _ _) ?_ | refine oV_eq (by (try with_reducible refine gV_F ?_); (try with_reducible refine gV_T ?_); first | exact (hA.mono l).sc.n | exact vField_to _ _ | exact vField_ptr _ _ _ | exact vNil_to _ | exact vNil_ptr _ | exact vInt_eql _ _ _ | exact vInt_neq _ _ _ | exact vInt_lss _ _ _ | exact vInt_leq _ _ _ | exact vInt_gtr _ _ _ | exact vInt_geq _ _ _ | exact i64_add (by omega) (by omega) | exact i64_sub (by omega) (by omega) | exact vUn_not _ | exact vLen_slice _ _ _ | exact vConv_int _ _ _) ?_ | refine oV_eq (gV_F rfl) ?_ | refine oV_eq (gV_T rfl) ?_))
    refine condK_dec (fun hlt => ?_) (fun hlt => absurd (by omega) hlt)
    unfold m7_11 m7_12
    refine cp_inner hD hA hk (by omega) (fun K lK => ?_) _ 0 H rfl (by omega) l
    unfold m7_10
    (repeat (first | refine oV_eq (gV_skipF _) ?_ | refine oV_eq (gV_skipT _) ?_ | refine oV_eq (pick_T _ _) ?_ | refine oV_eq (pick_F _ _) ?_ | refine oV_eq (by (try with_reducible refine gV_F ?_); (try with_reducible refine gV_T ?_); first | exact add_one (a := i) (by omega) | exact vField_to _ _ | exact vField_ptr _ _ _ | exact vNil_to _ | exact vNil_ptr _ | exact vInt_eql _ _ _ | exact vInt_neq _ _ _ | exact vInt_lss _ _ _ | exact vInt_leq _ _ _ | exact vInt_gtr _ _ _ | exact vInt_geq _ _ _ | exact i64_add (by omega) (by omega) | exact i64_sub (by omega) (by omega) | exact vUn_not _ | exact vLen_slice _ _ _ | exact vConv_int _ _ _) ?_ | refine oV_eq (gV_F rfl) ?_ | refine oV_eq (gV_T rfl) ?_))
    exact ih (i + 1) K (by omega) (by omega) lK
theorem cp_dealers (hD : DealOk s q) (hA : LAt H0 i1 i3 i6 s q cv dv tv qv Sv Rv Fv) {kn : Heap → Prop} (hkn : ∀ H, Le H0 H → kn H) :
    ∀ (d k : Nat) (H : Heap), s.n - k = d → k ≤ s.n → Le H0 H → L7_3 (ptrTo i1) (ptrTo i3) (ptrTo i6) (.int .i64 k) H kn Yes := by
  obtain ⟨hn, hqn, hn7, hn4⟩ := hD.n
  intro d
  induction d with
  | zero =>
    intro k H hd hk l
    apply L7_3_round
    unfold m7_4
    (repeat (first | refine oV_eq (gV_skipF _) ?_ | refine oV_eq (gV_skipT _) ?_ | refine oV_eq (pick_T _ _) ?_ | refine oV_eq (pick_F _ _) ?_ | refine oV_eq (by (try with_reducible refine gV_F ?_); (try with_reducible refine gV_T ?_); first | exact (hA.mono l).sc.n | exact vField_to _ _ | exact vField_ptr _ _ _ | exact vNil_to _ | exact vNil_ptr _ | exact vInt_eql _ _ _ | exact vInt_neq _ _ _ | exact vInt_lss _ _ _ | exact vInt_leq _ _ _ | exact vInt_gtr _ _ _ | exact vInt_geq _ _ _ | exact i64_add (by omega) (by omega) | exact i64_sub (by omega) (by omega) | exact vUn_not _ | exact vLen_slice _ _ _ | exact vConv_int _ _ _) ?_ | refine oV_eq (gV_F rfl) ?_ | refine oV_eq (gV_T rfl) ?_))
    refine condK_dec (fun hlt => absurd hlt (by omega)) (fun _ => hkn H l)
  | succ d ih =>
    intro k H hd hk l
    apply L7_3_round
    unfold m7_4
    (repeat (first | refine oV_eq (gV_skipF _) ?_ | refine oV_eq (gV_skipT _) ?_ | refine oV_eq (pick_T _ _) ?_ | refine oV_eq (pick_F _ _) ?_ | refine oV_eq (by (try with_reducible refine gV_F ?_); (try with_reducible refine gV_T ?_); first | exact (hA.mono l).sc.n | exact vField_to _ _ | exact vField_ptr _ _ _ | exact vNil_to _ | exact vNil_ptr _ | exact vInt_eql _ _ _ | exact vInt_neq _ _ _ | exact vInt_lss _ _ _ | exact vInt_leq _ _ _ | exact vInt_gtr _ _ _ | exact vInt_geq _ _ _ | exact i64_add (by omega) (by omega) | exact i64_sub (by omega) (by omega) | exact vUn_not _ | exact vLen_slice _ _ _ | exact vConv_int _ _ _) ?_ | refine oV_eq (gV_F rfl) ?_ | refine oV_eq (gV_T rfl) ?_))
    refine condK_dec (fun hlt => ?_) (fun hlt => absurd (by omega) hlt)
    unfold m7_6 m7_7
    refine cp_parties hD hA (by omega) (fun K lK => ?_) _ 0 H rfl (by omega) l
    unfold m7_5
    (repeat (first | refine oV_eq (gV_skipF _) ?_ | refine oV_eq (gV_skipT _) ?_ | refine oV_eq (pick_T _ _) ?_ | refine oV_eq (pick_F _ _) ?_ | refine oV_eq (by (try with_reducible refine gV_F ?_); (try with_reducible refine gV_T ?_); first | exact add_one (a := k) (by omega) | exact vField_to _ _ | exact vField_ptr _ _ _ | exact vNil_to _ | exact vNil_ptr _ | exact vInt_eql _ _ _ | exact vInt_neq _ _ _ | exact vInt_lss _ _ _ | exact vInt_leq _ _ _ | exact vInt_gtr _ _ _ | exact vInt_geq _ _ _ | exact i64_add (by omega) (by omega) | exact i64_sub (by omega) (by omega) | exact vUn_not _ | exact vLen_slice _ _ _ | exact vConv_int _ _ _) ?_ | refine oV_eq (gV_F rfl) ?_ | refine oV_eq (gV_T rfl) ?_))
    exact ih (k + 1) K (by omega) (by omega) lK
theorem complaints18_spec (hG : GL H) (hok : DzOk H s q cv dv tv qv) (hwf : DzWf s q) : RCalls Tryd.prog 7 [dealVal s cv dv tv qv] H Yes := by
  apply call7
  unfold m7
  refine deal_new s cv dv tv qv fun i1 H1 _ _ l1 hz => ?_
  refine oRC_grow (awake18_spec (hG.mono l1)) fun H2 l2 => ?_
  refine oV_eq (v := .bool false) rfl (condK_false ?_)
  have l12 := l1.trans l2
  replace hz := hz.mono l2
  (repeat (first | refine oV_eq (gV_skipF _) ?_ | refine oV_eq (gV_skipT _) ?_ | refine oV_eq (pick_T _ _) ?_ | refine oV_eq (pick_F _ _) ?_ | refine oV_eq (by (try with_reducible refine gV_F ?_); (try with_reducible refine gV_T ?_); first | exact hz.scn | exact hz.qq | exact vField_to _ _ | exact vField_ptr _ _ _ | exact vNil_to _ | exact vNil_ptr _ | exact vInt_eql _ _ _ | exact vInt_neq _ _ _ | exact vInt_lss _ _ _ | exact vInt_leq _ _ _ | exact vInt_gtr _ _ _ | exact vInt_geq _ _ _ | exact i64_add (by omega) (by omega) | exact i64_sub (by omega) (by omega) | exact vUn_not _ | exact vLen_slice _ _ _ | exact vConv_int _ _ _) ?_ | refine oV_eq (gV_F rfl) ?_ | refine oV_eq (gV_T rfl) ?_))
  refine oRC_ret (fair18_spec (hok.mono l12) hwf) fun r H3 hr => ?_
  obtain ⟨l3, b, rfl, hb⟩ := hr
  cases b with
  | false => exact oV_eq (v := .bool true) rfl (condK_true rfl)
  | true =>
    have hD := hb rfl
    have hq := hD.n
    refine oV_eq (v := .bool false) rfl (condK_false ?_)
    have l13 := l12.trans l3
    (repeat (first | refine oV_eq (gV_skipF _) ?_ | refine oV_eq (gV_skipT _) ?_ | refine oV_eq (pick_T _ _) ?_ | refine oV_eq (pick_F _ _) ?_ | refine oV_eq (by (try with_reducible refine gV_F ?_); (try with_reducible refine gV_T ?_); first | exact (hz.mono l3).all | exact vField_to _ _ | exact vField_ptr _ _ _ | exact vNil_to _ | exact vNil_ptr _ | exact vInt_eql _ _ _ | exact vInt_neq _ _ _ | exact vInt_lss _ _ _ | exact vInt_leq _ _ _ | exact vInt_gtr _ _ _ | exact vInt_geq _ _ _ | exact i64_add (by omega) (by omega) | exact i64_sub (by omega) (by omega) | exact vUn_not _ | exact vLen_slice _ _ _ | exact vConv_int _ _ _) ?_ | refine oV_eq (gV_F rfl) ?_ | refine oV_eq (gV_T rfl) ?_))
    refine oRC_ret (dist18_spec (hG.mono l13) (hok.mono l13) hwf hD) fun v H4 hv => ?_
    obtain ⟨R, tg, jn, tp, qs, Sv, Rv, Fv, lR, rfl, hd⟩ := hv
    refine oV_eq (v := .agg #[Sv, Rv, Fv]) rfl (oV_eq (v := ptrTo jn) rfl (oV_eq (v := .bool true) rfl ?_))
    refine st_var hd.mats hd.rows hd.flags fun i3 H5 l5 hst => ?_
    have hl := hd.lab.le
    have l15 := ((l13.trans lR).trans hl).trans l5
    have hz5 := hz.mono (((l3.trans lR).trans hl).trans l5)
    have lR5 := hl.trans l5
    (repeat (first | refine oV_eq (gV_skipF _) ?_ | refine oV_eq (gV_skipT _) ?_ | refine oV_eq (pick_T _ _) ?_ | refine oV_eq (pick_F _ _) ?_ | refine oV_eq (by (try with_reducible refine gV_F ?_); (try with_reducible refine gV_T ?_); first | exact hz5.all | exact hst.all | exact vField_to _ _ | exact vField_ptr _ _ _ | exact vNil_to _ | exact vNil_ptr _ | exact vInt_eql _ _ _ | exact vInt_neq _ _ _ | exact vInt_lss _ _ _ | exact vInt_leq _ _ _ | exact vInt_gtr _ _ _ | exact vInt_geq _ _ _ | exact i64_add (by omega) (by omega) | exact i64_sub (by omega) (by omega) | exact vUn_not _ | exact vLen_slice _ _ _ | exact vConv_int _ _ _) ?_ | refine oV_eq (gV_F rfl) ?_ | refine oV_eq (gV_T rfl) ?_))
    refine gK_FF (oRC_grow (well_spec (hok.mono l15) (hd.mats.mono lR5) (hd.rows.mono lR5) (hd.flags.mono lR5) (shape_ok hD) hq.1 (by omega)) fun H6 l6 => ?_)
    (repeat (first | refine oV_eq (gV_skipF _) ?_ | refine oV_eq (gV_skipT _) ?_ | refine oV_eq (pick_T _ _) ?_ | refine oV_eq (pick_F _ _) ?_ | refine oV_eq (by (try with_reducible refine gV_F ?_); (try with_reducible refine gV_T ?_); first | exact vField_to _ _ | exact vField_ptr _ _ _ | exact vNil_to _ | exact vNil_ptr _ | exact vInt_eql _ _ _ | exact vInt_neq _ _ _ | exact vInt_lss _ _ _ | exact vInt_leq _ _ _ | exact vInt_gtr _ _ _ | exact vInt_geq _ _ _ | exact i64_add (by omega) (by omega) | exact i64_sub (by omega) (by omega) | exact vUn_not _ | exact vLen_slice _ _ _ | exact vConv_int _ _ _) ?_ | refine oV_eq (gV_F rfl) ?_ | refine oV_eq (gV_T rfl) ?_))
    refine condK_false ?_
    have hz6 := hz5.mono l6
    have l16 := l15.trans l6
    have lR6 := lR5.trans l6
    (repeat (first | refine oV_eq (gV_skipF _) ?_ | refine oV_eq (gV_skipT _) ?_ | refine oV_eq (pick_T _ _) ?_ | refine oV_eq (pick_F _ _) ?_ | refine oV_eq (by (try with_reducible refine gV_F ?_); (try with_reducible refine gV_T ?_); first | exact hz6.scn | exact vField_to _ _ | exact vField_ptr _ _ _ | exact vNil_to _ | exact vNil_ptr _ | exact vInt_eql _ _ _ | exact vInt_neq _ _ _ | exact vInt_lss _ _ _ | exact vInt_leq _ _ _ | exact vInt_gtr _ _ _ | exact vInt_geq _ _ _ | exact i64_add (by omega) (by omega) | exact i64_sub (by omega) (by omega) | exact vUn_not _ | exact vLen_slice _ _ _ | exact vConv_int _ _ _) ?_ | refine oV_eq (gV_F rfl) ?_ | refine oV_eq (gV_T rfl) ?_))
    refine scn_var (hok.mono l16).s fun i6 H7 l7 hsc => ?_
    have lR7 := lR6.trans l7
    have hA : LAt H7 i1 i3 i6 s q cv dv tv qv Sv Rv Fv := ⟨hz6.mono l7, hst.mono (l6.trans l7), hsc, hok.mono (l16.trans l7), hd.mats.mono lR7, hd.rows.mono lR7, hd.flags.mono lR7⟩
    unfold m7_2
    exact cp_dealers hD hA (fun K lK => rfl) _ 0 H7 rfl (by omega) (Le.refl _)
end
end Go.Proofs.YtchhpagkdaaglaaDoor.SL
