/- A builder beside a slice that grows; the law's inputs; words; counting multiplications. -/
import Derived.Test.YtpbaoefjkfdgmaaGadN
set_option linter.unusedVariables false
set_option linter.unusedSimpArgs false
namespace Go.Proofs.Ytpbaoefjkfdgmaa.SL
open Go

theorem bd_append {te : TI} {e : TypeId} {v x : Value} {n : Nat} {cs : List Value} {G0 G H : Heap} {b : Value} {p : Int} {gs : List Gate} {os : List Int} {k : Value → Heap → Prop} (hB : Bd G H b p gs os) (hg : Grown G0 G te.size e v n cs) (hz : te.zero.cells.size = te.size) (hv : x.cells.size = te.size)
    (h1 : ∀ c ∈ x.cells.toList, c.oneCell' = true) (hs : 0 < te.size) (hb : (n + 1) * te.bytes ≤ 140737488355328) (hm : n + 1 ≤ 9223372036854775807)
    (hk : ∀ v' G' H', Bd G' H' b p gs os → Grown G0 G' te.size e v' (n + 1) (cs ++ x.cells.toList) → k v' H') :
    oBuildS te e 1 [((0, te.size), x)] H fun s H1 => oAppend te e v s H1 k := by
  have ho : Own te.size e H v n cs := hg.2.1.mono fun j hj => by
    obtain ⟨_, _, h⟩ := hg.2.1.at_ hj
    rw [h, hB.le _ _ h]
  refine append_own ho hz hv h1 hs hb hm fun s j cap hs' hjs hj hc hc2 => hk _ (hins G j (.cells (cs ++ x.cells.toList) (cap * te.size) e true)) _ ?_ ⟨?_, .inr ⟨j, cap, rfl, hc, hc2, hins_self _ _ _, ?_⟩, fun i hi => ?_⟩
  · have hB1 := hB.more hs' (.cells x.cells.toList te.size e true)
    rcases hj with hj | hj
    · obtain ⟨_, _, h⟩ := hg.2.1.at_ hj
      exact hB1.put (by rw [h]; simp) _
    · exact hB1.fresh (by rw [hins_other _ _ hjs]; exact hj) _
  · have hj0 : G0 j = none := by
      rcases hj with hj | hj
      · exact hg.2.2 j hj
      · exact none_le hg.1 (none_le hB.le hj)
    intro i c hi
    rw [hins_other _ _ (fun e => by subst e; rw [hj0] at hi; cases hi)]
    exact hg.1 i c hi
  · have h2 : x.cells.toList.length = te.size := by simpa using hv
    rw [List.length_append, hg.2.1.length, h2, Nat.succ_mul]
  · cases hi
    rcases hj with hj | hj
    · exact hg.2.2 _ hj
    · exact none_le hg.1 (none_le hB.le hj)
/-- The numbers of n gates from m on. -/
def ids (m n : Nat) : List Int := (List.range n).map fun (i : Nat) => ((m + i : Nat) : Int)
theorem ids_succ (m n : Nat) : ids m (n + 1) = ids m n ++ [((m + n : Nat) : Int)] := by simp [ids, List.range_succ]
theorem ids_len (m n : Nat) : (ids m n).length = n := by simp [ids]
def inGate (f : Int) : Gate := ⟨1, f, 0, 0, 1⟩
theorem ins_loop {G0 : Heap} {b : Value} {p f : Int} {gs : List Gate} {os : List Int} {n : Nat} (hn : gs.length + n ≤ 1000000) {kn : Value → Heap → Prop} {Q : Ending → Heap → Prop}
    (hk : ∀ v G H, Bd G H b p (gs ++ List.replicate n (inGate f)) os → Grown G0 G 1 3 v n (icells (ids gs.length n)) → kn v H) :
    ∀ (d i : Nat) (G H : Heap) (v : Value), n - i = d → i ≤ n → Bd G H b p (gs ++ List.replicate i (inGate f)) os → Grown G0 G 1 3 v i (icells (ids gs.length i)) → L26_3 b (.int .i64 f) (.int .i64 n) v (.int .i64 i) H kn Q
  | d, i, G, H, v, hd, hi, hB, hg => by
    apply L26_3_round
    unfold m26_4
    refine oV_eq (vInt_lss _ _ _) (condK_dec (fun hlt => ?_) (fun hlt => ?_))
    · refine oRC_ret (input_puts b p f true _ _ _ _ hB (by simp; omega)) fun v' H' hv => ?_
      obtain ⟨rfl, hB1⟩ := hv
      refine bd_append (te := ty3) hB1 hg rfl rfl (fun c hc => by rw [List.mem_singleton.1 hc]; rfl) (by show 0 < 1; omega) (by show (i + 1) * 8 ≤ _; omega) (by omega) fun v' G' H' hB2 hg2 => ?_
      refine oV_eq (vInt_add _ _ _) ?_
      rw [wrap_i64 (by omega) (by omega)]
      refine ins_loop hn hk (d - 1) (i + 1) G' H' v' (by omega) (by omega) ?_ ?_
      · have : gs ++ List.replicate (i + 1) (inGate f) = (pIn f true (gs ++ List.replicate i (inGate f))).2 := by
          simp [pIn, put, inGate, List.replicate_succ']
        rw [this]
        exact hB2
      · rw [ids_succ, icells, List.map_append]
        have : ((pIn f true (gs ++ List.replicate i (inGate f))).1) = ((gs.length + i : Nat) : Int) := by simp [pIn, put]
        rw [this] at hg2
        exact hg2
    · have : i = n := by omega
      subst this
      exact hk v G H hB hg
  termination_by d => d
theorem ins_spec {G H : Heap} {b : Value} {p f : Int} {gs : List Gate} {os : List Int} {n : Nat} (h : Bd G H b p gs os) (hn : gs.length + n ≤ 1000000) :
    RCalls Try.prog 26 [b, .int .i64 f, .int .i64 n] H (Ret fun v H' => ∃ G', Le G G' ∧ Bd G' H' b p (gs ++ List.replicate n (inGate f)) os ∧ Sl (eInt .i64) G' v (ids gs.length n)) := by
  apply call26
  unfold m26 m26_2
  refine ins_loop (G0 := G) hn (fun v G' H' hB hg => ?_) _ 0 G H _ rfl (by omega) (by simpa using h) (Grown.nil _ _ _)
  unfold m26_1
  exact ⟨G', hg.1, hB, Own.sl_int (by rw [ids_len]; exact hg.2.1)⟩
/-! ### Words -/
def wordOf (b : Bool) : Int := if b then 1 else 0
theorem words_loop {H0 : Heap} {x : Value} {bs : List Bool} (hx : Sl eBool H0 x bs) (hl : bs.length ≤ 1000000) {kn : Value → Heap → Prop} {Q : Ending → Heap → Prop} (hk : ∀ v H, Grown H0 H 1 22 v bs.length ((bs.map wordOf).map (.int .u64)) → kn v H) :
    ∀ (d i : Nat) (H : Heap) (v : Value), bs.length - i = d → i ≤ bs.length → Grown H0 H 1 22 v i (((bs.map wordOf).take i).map (.int .u64)) → L27_3 x v (.int .i64 i) H kn Q
  | d, i, H, v, hd, hi, hg => by
    apply L27_3_round
    unfold m27_4
    refine oV_eq hx.len (oV_eq (vInt_lss _ _ _) (condK_dec (fun hlt => ?_) (fun hlt => ?_)))
    · have hlt' : i < bs.length := by omega
      obtain ⟨q, f1, f2⟩ := (hx.mono hg.1).bool .i64 (i := (i : Int)) (by omega) (by omega) (ti := ty4) rfl
      have e : bs.getD (i : Int).toNat false = bs[i] := by simp [hlt']
      rw [e] at f2
      have next : ∀ v' H', Grown H0 H' 1 22 v' (i + 1) (((bs.map wordOf).take i).map (.int .u64) ++ [.int .u64 (wordOf bs[i])]) → L27_3 x v' (.int .i64 ((i : Int) + 1)) H' kn Q := fun v' H' hg' => by
        refine words_loop hx hl hk (d - 1) (i + 1) H' v' (by omega) (by omega) ?_
        rw [List.take_succ_eq_append_getElem (by simpa using hlt'), List.map_append]
        simpa using hg'
      refine oV_eq f1 (oV_eq f2 ?_)
      cases hb : bs[i] with
      | true =>
        refine condK_true (Grown.append (te := ty22) hg rfl rfl (fun c hc => by rw [List.mem_singleton.1 hc]; rfl) (by show 0 < 1; omega) (by show (i + 1) * 8 ≤ _; omega) (by omega) fun v' H' hg' => oV_eq (vInt_add _ _ _) ?_)
        rw [wrap_i64 (by omega) (by omega)]
        rw [hb] at next
        exact next v' H' hg'
      | false =>
        refine condK_false (Grown.append (te := ty22) hg rfl rfl (fun c hc => by rw [List.mem_singleton.1 hc]; rfl) (by show 0 < 1; omega) (by show (i + 1) * 8 ≤ _; omega) (by omega) fun v' H' hg' => oV_eq (vInt_add _ _ _) ?_)
        rw [wrap_i64 (by omega) (by omega)]
        rw [hb] at next
        exact next v' H' hg'
    · have : i = bs.length := by omega
      subst this
      rw [List.take_of_length_le (by simp)] at hg
      exact hk v H hg
  termination_by d => d
theorem words_spec {H : Heap} {x : Value} {bs : List Bool} (hx : Sl eBool H x bs) (hl : bs.length ≤ 1000000) : RCalls Try.prog 27 [x] H (Made (eInt .u64) (bs.map wordOf) H) := by
  apply call27
  unfold m27 m27_2
  refine words_loop hx hl (fun v H' hg => ?_) _ 0 H _ rfl (by omega) (Grown.nil _ _ _)
  unfold m27_1
  have hg' : Grown H H' (eInt .u64).sz 22 v (bs.map wordOf).length ((bs.map wordOf).map (.int .u64)) := by rw [List.length_map]; exact hg
  exact hg'.made (e := eInt .u64) (fun K i x hx => icells_get (bs.map wordOf) .u64 i x hx)
/-! ### Multiplications -/
def mulCount (gs : List Gate) : Nat := gs.countP fun g => decide (g.kind = 6)
theorem mulCount_take (gs : List Gate) (i : Nat) (h : i < gs.length) : mulCount (gs.take (i + 1)) = mulCount (gs.take i) + if gs[i].kind = 6 then 1 else 0 := by
  unfold mulCount
  rw [List.take_succ_eq_append_getElem h, List.countP_append, List.countP_singleton]
  congr 1
  simp
theorem mulCount_le (gs : List Gate) (i : Nat) : mulCount (gs.take i) ≤ i := by
  have h1 := List.countP_le_length (p := fun g : Gate => decide (g.kind = 6)) (l := gs.take i)
  have h2 : (gs.take i).length ≤ i := by rw [List.length_take]; omega
  exact Nat.le_trans h1 h2
theorem muls_loop {H : Heap} {jc : Nat} {p : Int} {gv ov : Value} {gs : List Gate} {os : List Int} (hc : CircAt H jc p gv ov gs os) {kn : Value → Heap → Prop} {Q : Ending → Heap → Prop} (h1 : kn (.int .i64 (mulCount gs)) H) :
    ∀ (d i : Nat), gs.length - i = d → i ≤ gs.length → L33_3 (ptrTo jc) (.int .i64 (mulCount (gs.take i))) (.int .i64 i) H kn Q
  | d, i, hd, hi => by
    apply L33_3_round
    unfold m33_4
    have hm := hc.gates.max
    simp only [↓hs_some, ↓hs_fieldto, ↓hs_field, ↓hs_nilto, ↓hs_nilp, ↓hs_gTT, ↓hs_gFF, ↓hs_gTF, ↓hs_gFT, ↓hs_pickT, ↓hs_pickF, ↓hs_not, ↓hs_len, ↓hs_conv, ↓hs_ex0, ↓hs_ex1, ↓hs_add, ↓hs_sub, ↓hs_mul, ↓hs_eql, ↓hs_neq, ↓hs_lss, ↓hs_leq, ↓hs_gtr, ↓hs_geq, ↓oV_of hc.lg, ↓oV_of hc.gates.len]
    refine condK_dec (fun hlt => ?_) (fun hlt => ?_)
    · have hlt' : i < gs.length := by omega
      obtain ⟨q, off, g1, g2, g3, g4⟩ := hc.gates.gate hlt'
      have hs := mulCount_take gs i hlt'
      have hb := mulCount_le gs i
      have w1 := wrap_i64 (show -9223372036854775808 ≤ (i : Int) + 1 by omega) (by omega)
      have w2 := wrap_i64 (show -9223372036854775808 ≤ (mulCount (gs.take i) : Int) + 1 by omega) (by omega)
      have := muls_loop hc (kn := kn) (Q := Q) h1 (d - 1) (i + 1) (by omega) (by omega)
      simp only [↓hs_some, ↓hs_fieldto, ↓hs_field, ↓hs_nilto, ↓hs_nilp, ↓hs_gTT, ↓hs_gFF, ↓hs_gTF, ↓hs_gFT, ↓hs_pickT, ↓hs_pickF, ↓hs_not, ↓hs_len, ↓hs_conv, ↓hs_ex0, ↓hs_ex1, ↓hs_add, ↓hs_sub, ↓hs_mul, ↓hs_eql, ↓hs_neq, ↓hs_lss, ↓hs_leq, ↓hs_gtr, ↓hs_geq, ↓oV_of hc.lg, ↓oV_of g1, ↓oV_of g3]
      refine condK_dec (fun c => ?_) (fun c => ?_)
      · simp only [↓hs_some, ↓hs_fieldto, ↓hs_field, ↓hs_nilto, ↓hs_nilp, ↓hs_gTT, ↓hs_gFF, ↓hs_gTF, ↓hs_gFT, ↓hs_pickT, ↓hs_pickF, ↓hs_not, ↓hs_len, ↓hs_conv, ↓hs_ex0, ↓hs_ex1, ↓hs_add, ↓hs_sub, ↓hs_mul, ↓hs_eql, ↓hs_neq, ↓hs_lss, ↓hs_leq, ↓hs_gtr, ↓hs_geq, w1, w2]
        rw [hs, if_pos c] at this
        exact this
      · simp only [↓hs_some, ↓hs_fieldto, ↓hs_field, ↓hs_nilto, ↓hs_nilp, ↓hs_gTT, ↓hs_gFF, ↓hs_gTF, ↓hs_gFT, ↓hs_pickT, ↓hs_pickF, ↓hs_not, ↓hs_len, ↓hs_conv, ↓hs_ex0, ↓hs_ex1, ↓hs_add, ↓hs_sub, ↓hs_mul, ↓hs_eql, ↓hs_neq, ↓hs_lss, ↓hs_leq, ↓hs_gtr, ↓hs_geq, w1]
        rw [hs, if_neg c] at this
        exact this
    · have : i = gs.length := by omega
      subst this
      rw [List.take_length]
      exact h1
  termination_by d => d
theorem muls_spec {H : Heap} {c : Value} {p : Int} {gs : List Gate} {os : List Int} (h : Circ H c p gs os) : RCalls Try.prog 33 [c] H (Grow (.int .i64 (mulCount gs)) H) := by
  apply call33
  unfold m33
  refine circ_new h fun i H1 gv ov hl hc => ?_
  unfold m33_2
  exact muls_loop hc ⟨rfl, hl⟩ _ 0 rfl (by omega)
end Go.Proofs.Ytpbaoefjkfdgmaa.SL
