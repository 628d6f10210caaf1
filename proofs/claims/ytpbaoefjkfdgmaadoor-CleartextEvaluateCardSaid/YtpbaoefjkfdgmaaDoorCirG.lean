/- Which inputs fit a circuit. -/
import Derived.Test.YtpbaoefjkfdgmaaDoorCirF
set_option linter.unusedVariables false
set_option linter.unusedSimpArgs false
namespace Go.Proofs.YtpbaoefjkfdgmaaDoor.SL
open Go

def fits (p : Int) (gs : List Gate) (ins : List (List Int)) : Prop :=
  (∀ (i : Nat) (h : i < gs.length), gs[i].kind = 1 → gs[i].frm ≤ ins.length) ∧ ∀ (j : Nat) (h : j < ins.length), ins[j].length = inCount (j + 1) gs ∧ ∀ x ∈ ins[j], x < p
section
variable {H : Heap} {jc : Nat} {p : Int} {gv ov iv : Value} {gs : List Gate} {os : List Int} {ins : List (List Int)}
theorem fits_gates (hc : CircAt H jc p gv ov gs os) (hin : Sl (eSlice (eInt .u64)) H iv ins) {kn : Value → Value → Heap → Prop} {Q : Ending → Heap → Prop}
    (h1 : (∀ (i : Nat) (h : i < gs.length), gs[i].kind = 1 → gs[i].frm ≤ ins.length) → kn iv (ptrTo jc) H) (h2 : ¬ (∀ (i : Nat) (h : i < gs.length), gs[i].kind = 1 → gs[i].frm ≤ ins.length) → Q (.returned (.bool false)) H) :
    ∀ (d i : Nat), gs.length - i = d → i ≤ gs.length → (∀ (j : Nat) (h : j < gs.length), j < i → gs[j].kind = 1 → gs[j].frm ≤ ins.length) → L14_12 iv (ptrTo jc) (.int .i64 i) H kn Q
  | d, i, hd, hi, hv => by
    apply L14_12_round
    unfold m14_13
    have hm := hc.gates.max
    simp only [↓hs_some, ↓hs_fieldto, ↓hs_field, ↓hs_nilto, ↓hs_nilp, ↓hs_gTT, ↓hs_gFF, ↓hs_gTF, ↓hs_gFT, ↓hs_pickT, ↓hs_pickF, ↓hs_not, ↓hs_len, ↓hs_conv, ↓hs_ex0, ↓hs_ex1, ↓hs_add, ↓hs_sub, ↓hs_mul, ↓hs_eql, ↓hs_neq, ↓hs_lss, ↓hs_leq, ↓hs_gtr, ↓hs_geq, ↓oV_of hc.lg, ↓oV_of hc.gates.len]
    refine condK_dec (fun hlt => ?_) (fun hlt => h1 (fun j h => hv j h (by omega)))
    have hlt' : i < gs.length := by omega
    obtain ⟨q, off, g1, g2, g3, g4⟩ := hc.gates.gate hlt'
    have w1 := wrap_i64 (show -9223372036854775808 ≤ (i : Int) + 1 by omega) (by omega)
    simp only [↓hs_some, ↓hs_fieldto, ↓hs_field, ↓hs_nilto, ↓hs_nilp, ↓hs_gTT, ↓hs_gFF, ↓hs_gTF, ↓hs_gFT, ↓hs_pickT, ↓hs_pickF, ↓hs_not, ↓hs_len, ↓hs_conv, ↓hs_ex0, ↓hs_ex1, ↓hs_add, ↓hs_sub, ↓hs_mul, ↓hs_eql, ↓hs_neq, ↓hs_lss, ↓hs_leq, ↓hs_gtr, ↓hs_geq, ↓oV_of hc.lg, ↓oV_of g1, ↓oV_of g3]
    have next : (gs[i].kind = 1 → gs[i].frm ≤ ins.length) → L14_12 iv (ptrTo jc) (.int .i64 ((i : Int) + 1)) H kn Q := fun hg =>
      fits_gates hc hin h1 h2 (d - 1) (i + 1) (by omega) (by omega) (fun j h hj => by
        by_cases e : j = i
        · subst e; exact hg
        · exact hv j h (by omega))
    by_cases c1 : gs[i].kind = 1
    · rw [decide_eq_true c1]
      simp only [↓hs_some, ↓hs_fieldto, ↓hs_field, ↓hs_nilto, ↓hs_nilp, ↓hs_gTT, ↓hs_gFF, ↓hs_gTF, ↓hs_gFT, ↓hs_pickT, ↓hs_pickF, ↓hs_not, ↓hs_len, ↓hs_conv, ↓hs_ex0, ↓hs_ex1, ↓hs_add, ↓hs_sub, ↓hs_mul, ↓hs_eql, ↓hs_neq, ↓hs_lss, ↓hs_leq, ↓hs_gtr, ↓hs_geq, ↓oV_of hc.lg, ↓oV_of g1, ↓oV_of g4, ↓oV_of hin.len]
      refine condK_dec (fun c2 => h2 (fun h => absurd (h i hlt' c1) (by omega))) (fun c2 => ?_)
      simp only [↓hs_some, ↓hs_fieldto, ↓hs_field, ↓hs_nilto, ↓hs_nilp, ↓hs_gTT, ↓hs_gFF, ↓hs_gTF, ↓hs_gFT, ↓hs_pickT, ↓hs_pickF, ↓hs_not, ↓hs_len, ↓hs_conv, ↓hs_ex0, ↓hs_ex1, ↓hs_add, ↓hs_sub, ↓hs_mul, ↓hs_eql, ↓hs_neq, ↓hs_lss, ↓hs_leq, ↓hs_gtr, ↓hs_geq, w1]
      exact next (fun _ => by omega)
    · rw [decide_eq_false c1]
      simp only [↓hs_some, ↓hs_fieldto, ↓hs_field, ↓hs_nilto, ↓hs_nilp, ↓hs_gTT, ↓hs_gFF, ↓hs_gTF, ↓hs_gFT, ↓hs_pickT, ↓hs_pickF, ↓hs_not, ↓hs_len, ↓hs_conv, ↓hs_ex0, ↓hs_ex1, ↓hs_add, ↓hs_sub, ↓hs_mul, ↓hs_eql, ↓hs_neq, ↓hs_lss, ↓hs_leq, ↓hs_gtr, ↓hs_geq]
      refine condK_false ?_
      simp only [↓hs_some, ↓hs_fieldto, ↓hs_field, ↓hs_nilto, ↓hs_nilp, ↓hs_gTT, ↓hs_gFF, ↓hs_gTF, ↓hs_gFT, ↓hs_pickT, ↓hs_pickF, ↓hs_not, ↓hs_len, ↓hs_conv, ↓hs_ex0, ↓hs_ex1, ↓hs_add, ↓hs_sub, ↓hs_mul, ↓hs_eql, ↓hs_neq, ↓hs_lss, ↓hs_leq, ↓hs_gtr, ↓hs_geq, w1]
      exact next (fun h => absurd h c1)
  termination_by d => d
theorem fits_words (hc : CircAt H jc p gv ov gs os) (hin : Sl (eSlice (eInt .u64)) H iv ins) {j : Nat} (hj : j < ins.length) {kn kx3 : Value → Value → Value → Heap → Prop} {kx2 : Heap → Prop} {Q : Ending → Heap → Prop}
    (h1 : (∀ x ∈ ins[j], x < p) → kn iv (ptrTo jc) (.int .i64 j) H) (h2 : ¬ (∀ x ∈ ins[j], x < p) → Q (.returned (.bool false)) H) :
    ∀ (d i : Nat), ins[j].length - i = d → i ≤ ins[j].length → (∀ (k : Nat) (h : k < ins[j].length), k < i → ins[j][k] < p) → L14_9 iv (ptrTo jc) (.int .i64 j) (.int .i64 i) H kn kx3 kx2 Q
  | d, i, hd, hi, hv => by
    apply L14_9_round
    unfold m14_10
    obtain ⟨q, u, g1, g2, g3⟩ := hin.slice .i64 (i := (j : Int)) (by omega) (by omega) (ti := ty30) rfl
    have e : ins.getD (j : Int).toNat [] = ins[j] := by simp [hj]
    rw [e] at g3
    have hm := g3.max
    simp only [↓hs_some, ↓hs_fieldto, ↓hs_field, ↓hs_nilto, ↓hs_nilp, ↓hs_gTT, ↓hs_gFF, ↓hs_gTF, ↓hs_gFT, ↓hs_pickT, ↓hs_pickF, ↓hs_not, ↓hs_len, ↓hs_conv, ↓hs_ex0, ↓hs_ex1, ↓hs_add, ↓hs_sub, ↓hs_mul, ↓hs_eql, ↓hs_neq, ↓hs_lss, ↓hs_leq, ↓hs_gtr, ↓hs_geq, ↓oV_of g1, ↓oV_of g2, ↓oV_of g3.len]
    refine condK_dec (fun hlt => ?_) (fun hlt => h1 (fun x hx => ?_))
    · have hlt' : i < ins[j].length := by omega
      obtain ⟨r, f1, f2⟩ := g3.int .i64 (i := (i : Int)) (by omega) (by omega) (ti := ty22) rfl
      have e2 : ins[j].getD (i : Int).toNat 0 = ins[j][i] := by simp [hlt']
      rw [e2] at f2
      simp only [↓hs_some, ↓hs_fieldto, ↓hs_field, ↓hs_nilto, ↓hs_nilp, ↓hs_gTT, ↓hs_gFF, ↓hs_gTF, ↓hs_gFT, ↓hs_pickT, ↓hs_pickF, ↓hs_not, ↓hs_len, ↓hs_conv, ↓hs_ex0, ↓hs_ex1, ↓hs_add, ↓hs_sub, ↓hs_mul, ↓hs_eql, ↓hs_neq, ↓hs_lss, ↓hs_leq, ↓hs_gtr, ↓hs_geq, ↓oV_of g1, ↓oV_of g2, ↓oV_of f1, ↓oV_of f2, ↓oV_of hc.lp]
      refine condK_dec (fun c => h2 (fun h => absurd (h ins[j][i] (List.getElem_mem _)) (by omega))) (fun c => ?_)
      simp only [↓hs_some, ↓hs_fieldto, ↓hs_field, ↓hs_nilto, ↓hs_nilp, ↓hs_gTT, ↓hs_gFF, ↓hs_gTF, ↓hs_gFT, ↓hs_pickT, ↓hs_pickF, ↓hs_not, ↓hs_len, ↓hs_conv, ↓hs_ex0, ↓hs_ex1, ↓hs_add, ↓hs_sub, ↓hs_mul, ↓hs_eql, ↓hs_neq, ↓hs_lss, ↓hs_leq, ↓hs_gtr, ↓hs_geq, wrap_i64 (show -9223372036854775808 ≤ (i : Int) + 1 by omega) (by omega)]
      exact fits_words hc hin hj h1 h2 (d - 1) (i + 1) (by omega) (by omega) (fun k h hk => by
        by_cases e : k = i
        · subst e; omega
        · exact hv k h (by omega))
    · obtain ⟨k, hk, rfl⟩ := List.mem_iff_getElem.1 hx
      exact hv k hk (by omega)
  termination_by d => d
theorem fits_parties {kn : Heap → Prop} {Q : Ending → Heap → Prop}
    (h1 : ∀ H', Le H H' → (∀ (j : Nat) (h : j < ins.length), ins[j].length = inCount (j + 1) gs ∧ ∀ x ∈ ins[j], x < p) → kn H') (h2 : ∀ H', Le H H' → ¬ (∀ (j : Nat) (h : j < ins.length), ins[j].length = inCount (j + 1) gs ∧ ∀ x ∈ ins[j], x < p) → Q (.returned (.bool false)) H') :
    ∀ (d j : Nat) (H' : Heap), Le H H' → CircAt H' jc p gv ov gs os → Sl (eSlice (eInt .u64)) H' iv ins → ins.length - j = d → j ≤ ins.length → (∀ (k : Nat) (h : k < ins.length), k < j → ins[k].length = inCount (k + 1) gs ∧ ∀ x ∈ ins[k], x < p) → L14_4 iv (ptrTo jc) (.int .i64 j) H' kn Q
  | d, j, H', hle, hc, hin, hd, hj, hv => by
    apply L14_4_round
    unfold m14_5
    have hm := hin.max
    simp only [↓hs_some, ↓hs_fieldto, ↓hs_field, ↓hs_nilto, ↓hs_nilp, ↓hs_gTT, ↓hs_gFF, ↓hs_gTF, ↓hs_gFT, ↓hs_pickT, ↓hs_pickF, ↓hs_not, ↓hs_len, ↓hs_conv, ↓hs_ex0, ↓hs_ex1, ↓hs_add, ↓hs_sub, ↓hs_mul, ↓hs_eql, ↓hs_neq, ↓hs_lss, ↓hs_leq, ↓hs_gtr, ↓hs_geq, ↓oV_of hin.len]
    refine condK_dec (fun hlt => ?_) (fun hlt => h1 _ hle (fun k h => hv k h (by omega)))
    have hlt' : j < ins.length := by omega
    unfold m14_7 m14_8
    obtain ⟨q, u, g1, g2, g3⟩ := hin.slice .i64 (i := (j : Int)) (by omega) (by omega) (ti := ty30) rfl
    have e : ins.getD (j : Int).toNat [] = ins[j] := by simp [hlt']
    rw [e] at g3
    have w1 := wrap_i64 (show -9223372036854775808 ≤ (j : Int) + 1 by omega) (by omega)
    simp only [↓hs_some, ↓hs_fieldto, ↓hs_field, ↓hs_nilto, ↓hs_nilp, ↓hs_gTT, ↓hs_gFF, ↓hs_gTF, ↓hs_gFT, ↓hs_pickT, ↓hs_pickF, ↓hs_not, ↓hs_len, ↓hs_conv, ↓hs_ex0, ↓hs_ex1, ↓hs_add, ↓hs_sub, ↓hs_mul, ↓hs_eql, ↓hs_neq, ↓hs_lss, ↓hs_leq, ↓hs_gtr, ↓hs_geq, ↓oV_of g1, ↓oV_of g2, ↓oV_of g3.len, ↓oV_of hc.lc, w1]
    refine oRC_grow (count_spec _ hc.circ) fun H2 hl2 => ?_
    refine ⟨vLoad_mono hl2 g2, ?_⟩
    simp only [↓hs_some, ↓hs_fieldto, ↓hs_field, ↓hs_nilto, ↓hs_nilp, ↓hs_gTT, ↓hs_gFF, ↓hs_gTF, ↓hs_gFT, ↓hs_pickT, ↓hs_pickF, ↓hs_not, ↓hs_len, ↓hs_conv, ↓hs_ex0, ↓hs_ex1, ↓hs_add, ↓hs_sub, ↓hs_mul, ↓hs_eql, ↓hs_neq, ↓hs_lss, ↓hs_leq, ↓hs_gtr, ↓hs_geq]
    have hc2 := hc.mono hl2
    have hin2 := hin.mono hl2
    refine condK_dec (fun c => h2 _ (hle.trans hl2) (fun h => c ?_)) (fun c => ?_)
    · have := (h j hlt').1
      rw [this]
    refine fits_words hc2 hin2 hlt' (fun hw => ?_) (fun hw => h2 _ (hle.trans hl2) (fun h => hw (h j hlt').2)) _ 0 rfl (by omega) (by omega)
    unfold m14_6
    simp only [↓hs_some, ↓hs_fieldto, ↓hs_field, ↓hs_nilto, ↓hs_nilp, ↓hs_gTT, ↓hs_gFF, ↓hs_gTF, ↓hs_gFT, ↓hs_pickT, ↓hs_pickF, ↓hs_not, ↓hs_len, ↓hs_conv, ↓hs_ex0, ↓hs_ex1, ↓hs_add, ↓hs_sub, ↓hs_mul, ↓hs_eql, ↓hs_neq, ↓hs_lss, ↓hs_leq, ↓hs_gtr, ↓hs_geq, w1]
    exact fits_parties h1 h2 (d - 1) (j + 1) H2 (hle.trans hl2) hc2 hin2 (by omega) (by omega) (fun k h hk => by
      by_cases e : k = j
      · subst e; exact ⟨by omega, hw⟩
      · exact hv k h (by omega))
  termination_by d => d
theorem fits_spec {c : Value} (h : Circ H c p gs os) (hin : Sl (eSlice (eInt .u64)) H iv ins) : RCalls Tryd.prog 14 [c, iv] H (Ret fun v H' => ∃ b : Bool, v = .bool b ∧ (b = true ↔ fits p gs ins) ∧ Le H H') := by
  apply call14
  unfold m14
  refine circ_new h fun i H1 gv ov hl hc => ?_
  have hin1 := hin.mono hl
  unfold m14_11
  have no : ∀ {H' : Heap}, Le H H' → ¬ fits p gs ins → (Ret fun v H' => ∃ b : Bool, v = .bool b ∧ (b = true ↔ fits p gs ins) ∧ Le H H') (.returned (.bool false)) H' := fun hl hn => ⟨false, rfl, iff_of_false (by simp) hn, hl⟩
  refine fits_gates hc hin1 (fun hg => ?_) (fun hg => no hl (fun h => hg h.1)) _ 0 rfl (by omega) (by omega)
  unfold m14_1 m14_3
  exact fits_parties (fun H2 hl2 hp => ⟨true, rfl, iff_of_true rfl ⟨hg, hp⟩, hl.trans hl2⟩) (fun H2 hl2 hp => no (hl.trans hl2) (fun h => hp h.2)) _ 0 H1 (Le.refl _) hc hin1 rfl (by omega) (by omega)
end
end Go.Proofs.YtpbaoefjkfdgmaaDoor.SL
