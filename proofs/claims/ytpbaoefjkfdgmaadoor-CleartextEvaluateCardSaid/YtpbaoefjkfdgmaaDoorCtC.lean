/- The program's effective inputs. -/
import Derived.Test.YtpbaoefjkfdgmaaDoorCtR
set_option linter.unusedVariables false
set_option linter.unusedSimpArgs false
namespace Go.Proofs.YtpbaoefjkfdgmaaDoor.SL
open Go

def goods (ins : List (List Int)) (gs : List Gate) (i : Nat) : List Value := (bads ins gs i).map fun b => .bool !b
theorem goods_len (ins : List (List Int)) (gs : List Gate) (i : Nat) : (goods ins gs i).length = ins.length := by simp [goods, bads_len]
theorem goods_skip (ins : List (List Int)) (gs : List Gate) {i : Nat} (h : i < gs.length) (hk : gs[i].kind ≠ 1) : goods ins gs (i + 1) = goods ins gs i := by rw [goods, bads_skip _ _ h hk]; rfl
theorem goods_take (ins : List (List Int)) (gs : List Gate) {i j : Nat} (h : i < gs.length) (hk : gs[i].kind = 1) (hj : j < ins.length) (hf : gs[i].frm = j + 1) (b : Bool)
    (hb : b = (decide (gs[i].k = 1) && decide (1 < ins[j].getD (inCount (j + 1) (gs.take i)) 0))) : goods ins gs (i + 1) = if b then (goods ins gs i).set j (.bool false) else goods ins gs i := by
  rw [goods, bads_take _ _ h hk hj hf b hb]
  cases b
  · rfl
  · rw [if_pos rfl, if_pos rfl, List.map_set]
    rfl
theorem goods_zero (ins : List (List Int)) (gs : List Gate) : goods ins gs 0 = List.replicate ins.length (.bool true) := by
  apply List.ext_getElem?
  intro x
  by_cases hx : x < ins.length
  · rw [goods, List.getElem?_map, bads_get _ _ _ hx]
    simp [hx, badUpto]
  · rw [List.getElem?_eq_none (by rw [goods_len]; omega), List.getElem?_eq_none (by simp; omega)]
theorem counts_zero (n : Nat) (gs : List Gate) : icells (counts n (gs.take 0)) = List.replicate n (.int .i64 0) := by
  apply List.ext_getElem?
  intro x
  rw [icells, List.getElem?_map]
  by_cases hx : x < n
  · rw [counts_get _ _ hx]
    simp [hx, inCount]
  · rw [List.getElem?_eq_none (by rw [counts_len]; omega), List.getElem?_eq_none (by simp; omega)]
    rfl
/-- What the inputs are found to be, after the first gates. -/
structure Found (p : Int) (gs : List Gate) (ins : List (List Int)) (i : Nat) : Prop where
  fr : ∀ (k : Nat) (h : k < gs.length), k < i → gs[k].kind = 1 → gs[k].frm ≤ ins.length
  ws : ∀ (j : Nat) (h : j < ins.length), inCount (j + 1) (gs.take i) ≤ ins[j].length ∧ ∀ t, t < inCount (j + 1) (gs.take i) → ins[j].getD t 0 < p
theorem Found.zero (p : Int) (gs : List Gate) (ins : List (List Int)) : Found p gs ins 0 := ⟨fun k h hk => absurd hk (by omega), fun j h => by simp [inCount]⟩
theorem Found.skip {p : Int} {gs : List Gate} {ins : List (List Int)} {i : Nat} (hf : Found p gs ins i) (h : i < gs.length) (hk : gs[i].kind ≠ 1) : Found p gs ins (i + 1) := by
  refine ⟨fun k h' hki h1 => ?_, fun j h' => ?_⟩
  · by_cases e : k = i
    · subst e
      exact absurd h1 hk
    · exact hf.fr k h' (by omega) h1
  · rw [inCount_take _ gs i h, if_neg (fun c => hk c.1)]
    exact hf.ws j h'
theorem Found.take {p : Int} {gs : List Gate} {ins : List (List Int)} {i j : Nat} (hf : Found p gs ins i) (h : i < gs.length) (hk : gs[i].kind = 1) (hj : j < ins.length) (hfr : gs[i].frm = j + 1) (h1 : inCount (j + 1) (gs.take i) < ins[j].length) (h2 : ins[j].getD (inCount (j + 1) (gs.take i)) 0 < p) : Found p gs ins (i + 1) := by
  refine ⟨fun k h' hki _ => ?_, fun x hx => ?_⟩
  · by_cases e : k = i
    · subst e
      omega
    · exact hf.fr k h' (by omega) (by assumption)
  · rw [inCount_take _ gs i h]
    by_cases e : x = j
    · subst e
      rw [if_pos ⟨hk, hfr⟩]
      refine ⟨by omega, fun t ht => ?_⟩
      by_cases e : t = inCount (x + 1) (gs.take i)
      · rw [e]; exact h2
      · exact (hf.ws x hx).2 t (by omega)
    · rw [if_neg (fun c => e (by have := c.2; omega))]
      exact hf.ws x hx
theorem Found.fits {p : Int} {gs : List Gate} {ins : List (List Int)} (hf : Found p gs ins gs.length) (hl : ∀ (j : Nat) (h : j < ins.length), (inCount (j + 1) gs : Int) = ins[j].length) : fits p gs ins := by
  refine ⟨fun i h h1 => hf.fr i h h h1, fun j h => ⟨by have := hl j h; omega, fun x hx => ?_⟩⟩
  have := (hf.ws j h).2
  rw [List.take_length] at this
  obtain ⟨t, ht, rfl⟩ := List.mem_iff_getElem.1 hx
  have h2 := this t (by have := hl j h; omega)
  simpa [ht] using h2
def noV : Value := .tuple #[.slice none 0 0, .bool false]
section
variable {G : Heap} {jc : Nat} {p : Int} {gv ov iv av bv : Value} {gs : List Gate} {os : List Int} {ins : List (List Int)}
theorem good_loop {n : Nat} {x2 : Value} {kn : Value → Value → Value → Value → Heap → Prop} {Q : Ending → Heap → Prop} (hn : n ≤ 1000000) (h1 : ∀ K, Grown G K 1 3 av n (List.replicate n (.int .i64 0)) → Grown G K 1 4 bv n (List.replicate n (.bool true)) → kn iv x2 av bv K) :
    ∀ (d i : Nat) (K : Heap), n - i = d → i ≤ n → Grown G K 1 3 av n (List.replicate n (.int .i64 0)) → Grown G K 1 4 bv n (List.replicate i (.bool true) ++ List.replicate (n - i) (.bool false)) →
      L12_11 iv x2 av bv (.int .i64 n) (.int .i64 i) K kn Q
  | d, i, K, hd, hi, ha, hb => by
    apply L12_11_round
    unfold m12_12
    refine oV_eq (vInt_lss _ _ _) (condK_dec (fun hlt => ?_) (fun hlt => ?_))
    · have hi' : i < n := by omega
      obtain ⟨q, x, b1, b2, b3, b4⟩ := hb.ix .i64 hi'
      obtain ⟨K2, s1, s2, s3, s4⟩ := b4 ty4 (.bool true) rfl rfl rfl
      refine oV_eq b1 (oHeap_eq s1 (oV_eq (vInt_add _ _ _) ?_))
      rw [wrap_i64 (by omega) (by omega)]
      refine good_loop hn h1 (d - 1) (i + 1) K2 (by omega) (by omega) (s3 ha (by decide)) ?_
      have e : (List.replicate i (Value.bool true) ++ List.replicate (n - i) (Value.bool false)).set i (.bool true) = List.replicate (i + 1) (.bool true) ++ List.replicate (n - (i + 1)) (.bool false) := by
        rw [List.set_append_right _ _ (by simp), List.length_replicate, Nat.sub_self, show n - i = (n - (i + 1)) + 1 by omega, List.replicate_succ, List.set_cons_zero, List.replicate_succ']
        simp
      rw [e] at s2
      exact s2
    · have e : i = n := by omega
      subst e
      rw [Nat.sub_self, List.replicate_zero, List.append_nil] at hb
      exact h1 K ha hb
  termination_by d => d
theorem counted_gates (hc : CircAt G jc p gv ov gs os) (hin : Sl (eSlice (eInt .u64)) G iv ins) (hv : validGates p gs) (hgm : gs.length ≤ 20000) {kn : Value → Value → Value → Heap → Prop} {Q : Ending → Heap → Prop}
    (h1 : ∀ K, Grown G K 1 3 av ins.length (icells (counts ins.length gs)) → Grown G K 1 4 bv ins.length (goods ins gs gs.length) → Found p gs ins gs.length → kn iv av bv K) (h2 : ∀ K, Le G K → ¬ fits p gs ins → Q (.returned noV) K) :
    ∀ (d i : Nat) (K : Heap), gs.length - i = d → i ≤ gs.length → Grown G K 1 3 av ins.length (icells (counts ins.length (gs.take i))) → Grown G K 1 4 bv ins.length (goods ins gs i) → Found p gs ins i →
      L12_8 iv (ptrTo jc) av bv gv (.int .i64 gs.length) (.int .i64 i) K kn Q
  | d, i, K, hd, hi, ha, hb, hfo => by
    apply L12_8_round
    unfold m12_9
    have hcK := hc.mono ha.1
    refine oV_eq (vInt_lss _ _ _) (condK_dec (fun hlt => ?_) (fun hlt => ?_))
    rotate_left
    · have : i = gs.length := by omega
      subst this
      rw [List.take_length] at ha
      exact h1 K ha hb hfo
    have hlt' : i < gs.length := by omega
    obtain ⟨q, off, g1, g2, _, _⟩ := hcK.gates.gate hlt'
    refine oV_eq g1 (oV_eq g2 (local_gate gs[i] fun x hx => ?_))
    have hga : GateAt (hins K x (.cells gs[i].cells 5 37 true)) x gs[i] := ⟨hins_self _ _ _⟩
    have hle := Le.ins (.cells gs[i].cells 5 37 true) hx
    generalize hins K x (.cells gs[i].cells 5 37 true) = K1 at hga hle ⊢
    replace ha := ha.le hle
    replace hb := hb.le hle
    replace hcK := hcK.mono hle
    have w1 := wrap_i64 (show -9223372036854775808 ≤ (i : Int) + 1 by omega) (by omega)
    refine oV_eq (v := .pointer (some ⟨x, 0, none⟩)) rfl (oV_eq hga.l0 (oV_eq (vInt_neq _ _ _) (condK_dec (fun hk => ?_) (fun hk => ?_))))
    · refine oV_eq (vInt_add _ _ _) ?_
      rw [w1]
      refine counted_gates hc hin hv hgm h1 h2 (d - 1) (i + 1) K1 (by omega) (by omega) ?_ ?_ (hfo.skip hlt' hk)
      · rw [counts_skip _ _ hlt' hk]; exact ha
      · rw [goods_skip _ _ hlt' hk]; exact hb
    have hk : gs[i].kind = 1 := by simpa using hk
    obtain ⟨f1, f2, _, _, _⟩ := valid_in (hv i hlt') hk
    obtain ⟨j, hj⟩ : ∃ j : Nat, gs[i].frm = j + 1 := ⟨(gs[i].frm - 1).toNat, by omega⟩
    have wj : IntKind.i64.wrap (gs[i].frm - 1) = j := by
      rw [wrap_i64 (by omega) (by omega)]
      omega
    have hinK := hin.mono ha.1
    have sj : vInt .sub (.int .i64 gs[i].frm) (.int .i64 1) = some (.int .i64 j) := by rw [vInt_sub, wj]
    refine oV_eq (v := .pointer (some ⟨x, 1, none⟩)) rfl (oV_eq hga.l1 (oV_eq sj (oV_eq hinK.len (oV_eq (v := .bool (decide ((ins.length : Int) ≤ j))) (vInt_geq .i64 (j : Int) (ins.length : Int)) ?_))))
    by_cases c1 : (ins.length : Int) ≤ j
    · rw [decide_eq_true c1]
      exact condK_true (h2 _ ha.1 fun hf => absurd (hf.1 i hlt' hk) (by omega))
    rw [decide_eq_false c1]
    have hjl : j < ins.length := by omega
    obtain ⟨pa, xa, a1, a2, a3, a4⟩ := ha.ix .i64 hjl
    rw [icells, List.getElem?_map, counts_get _ _ hjl] at a2
    cases a2
    obtain ⟨pi, ui, i1, i2, i3⟩ := hinK.slice .i64 (i := (j : Int)) (by omega) (by omega) (ti := ty30) rfl
    have ei : ins.getD (j : Int).toNat [] = ins[j] := by simp [hjl]
    rw [ei] at i3
    refine oV_eq (v := av) rfl (oV_eq (v := .int .i64 j) rfl (oV_eq (v := pa) a1 (oV_eq (v := .int .i64 (inCount (j + 1) (gs.take i))) (a3 ty3 rfl) (oV_eq (v := iv) rfl (oV_eq (v := .int .i64 j) rfl (oV_eq (v := pi) i1 (oV_eq (v := ui) i2 (oV_eq (v := .int .i64 ins[j].length) i3.len (oV_eq (v := .bool (decide ((ins[j].length : Int) ≤ inCount (j + 1) (gs.take i)))) (vInt_geq .i64 (inCount (j + 1) (gs.take i) : Int) (ins[j].length : Int)) (oV_eq (v := .bool (decide ((ins[j].length : Int) ≤ inCount (j + 1) (gs.take i)))) rfl ?_))))))))))
    have hcl := inCount_lt gs hlt' (j + 1) hk hj
    by_cases c2 : (ins[j].length : Int) ≤ inCount (j + 1) (gs.take i)
    · rw [decide_eq_true c2]
      exact condK_true (h2 _ ha.1 fun hf => absurd (hf.2 j hjl).1 (by omega))
    rw [decide_eq_false c2]
    obtain ⟨pw, w1', w2'⟩ := i3.int .i64 (i := (inCount (j + 1) (gs.take i) : Int)) (by omega) (by omega) (ti := ty22) rfl
    rw [Int.toNat_natCast] at w2'
    generalize hw : ins[j].getD (inCount (j + 1) (gs.take i)) 0 = w at w2'
    refine oV_eq (v := iv) rfl (oV_eq (v := .int .i64 j) rfl (oV_eq (v := pi) i1 (oV_eq (v := ui) i2 (oV_eq (v := av) rfl (oV_eq (v := .int .i64 j) rfl (oV_eq (v := pa) a1 (oV_eq (v := .int .i64 (inCount (j + 1) (gs.take i))) (a3 ty3 rfl) (oV_eq (v := pw) w1' (oV_eq (v := .int .u64 w) w2' (oV_eq (v := .pointer (some ⟨jc, 0, none⟩)) rfl (oV_eq (v := .int .u64 p) hcK.lp (oV_eq (v := .bool (decide (p ≤ w))) (vInt_geq .u64 w p) (oV_eq (v := .bool (decide (p ≤ w))) rfl ?_)))))))))))))
    by_cases c3 : p ≤ w
    · rw [decide_eq_true c3]
      refine condK_true (h2 _ ha.1 fun hf => ?_)
      have : ins[j].getD (inCount (j + 1) (gs.take i)) 0 = ins[j][inCount (j + 1) (gs.take i)]'(by omega) := by
        rw [List.getD_eq_getElem?_getD, List.getElem?_eq_getElem (by omega)]
        rfl
      have h3 := (hf.2 j hjl).2 _ (List.getElem_mem (show inCount (j + 1) (gs.take i) < ins[j].length by omega))
      omega
    rw [decide_eq_false c3]
    have hcb := inCount_le (j + 1) gs i
    have wc := wrap_i64 (show -9223372036854775808 ≤ (inCount (j + 1) (gs.take i) : Int) + 1 by omega) (by omega)
    have hfn := hfo.take hlt' hk hjl hj (by omega) (by omega)
    have fin : ∀ (b : Bool) (K2 : Heap), b = (decide (gs[i].k = 1) && decide (1 < ins[j].getD (inCount (j + 1) (gs.take i)) 0)) → Grown G K2 1 3 av ins.length ((icells (counts ins.length (gs.take i))).set j (.int .i64 ((inCount (j + 1) (gs.take i) : Int) + 1))) →
        Grown G K2 1 4 bv ins.length (if b then (goods ins gs i).set j (.bool false) else goods ins gs i) → L12_8 iv (ptrTo jc) av bv gv (.int .i64 gs.length) (.int .i64 ((i : Int) + 1)) K2 kn Q := by
      intro b K2 hbb ha2 hb2
      refine counted_gates hc hin hv hgm h1 h2 (d - 1) (i + 1) K2 (by omega) (by omega) ?_ ?_ hfn
      · rw [counts_take _ _ hlt' hk hjl hj, icells, List.map_set]
        exact ha2
      · rw [goods_take _ _ hlt' hk hjl hj b hbb]
        exact hb2
    rw [hw] at fin
    refine condK_false (oV_eq (v := .pointer (some ⟨x, 4, none⟩)) rfl (oV_eq hga.l4 (oV_eq (v := .bool (decide (gs[i].k = 1))) (vInt_eql .u64 gs[i].k 1) ?_)))
    obtain ⟨pb, xb, b1, b2, b3, b4⟩ := hb.ix .i64 hjl
    have no : ∀ b : Bool, b = false → b = (decide (gs[i].k = 1) && decide (1 < w)) → oV (vIdxS 1 av (.int .i64 j)) fun t95 => oV (vLoad ty3 t95 K1) fun t96 => oV (vInt .add t96 (.int .i64 1)) fun t97 => oV (vIdxS 1 av (.int .i64 j)) fun t98 =>
        oHeap (vStore ty3 t98 t97 K1) fun H_98 => oV (vInt .add (.int .i64 i) (.int .i64 1)) fun t99 => L12_8 iv (ptrTo jc) av bv gv (.int .i64 gs.length) t99 H_98 kn Q := by
      intro b hb0 hbb
      subst hb0
      obtain ⟨K3, t1, t2, t3, _⟩ := a4 ty3 (.int .i64 ((inCount (j + 1) (gs.take i) : Int) + 1)) rfl rfl rfl
      refine oV_eq a1 (oV_eq (a3 ty3 rfl) (oV_eq (vInt_add _ _ _) (oV_eq a1 ?_)))
      rw [wc]
      refine oHeap_eq t1 (oV_eq (vInt_add _ _ _) ?_)
      rw [w1]
      exact fin false K3 hbb t2 (t3 hb (by decide))
    by_cases ck : gs[i].k = 1
    · rw [decide_eq_true ck]
      refine oV_eq (v := iv) rfl (oV_eq (v := .int .i64 j) rfl (oV_eq (v := pi) i1 (oV_eq (v := ui) i2 (oV_eq (v := av) rfl (oV_eq (v := .int .i64 j) rfl (oV_eq (v := pa) a1 (oV_eq (v := .int .i64 (inCount (j + 1) (gs.take i))) (a3 ty3 rfl) (oV_eq (v := pw) w1' (oV_eq (v := .int .u64 w) w2' (oV_eq (v := .bool (decide (1 < w))) (vInt_gtr .u64 w 1) (oV_eq (v := .bool (decide (1 < w))) rfl ?_)))))))))))
      refine condK_dec (fun c4 => ?_) (fun c4 => ?_)
      · obtain ⟨K2, s1, s2, s3, s4⟩ := b4 ty4 (.bool false) rfl rfl rfl
        have ha2 := s3 ha (by decide)
        obtain ⟨pa2, xa2, d1, d2, d3, d4⟩ := ha2.ix .i64 hjl
        rw [icells, List.getElem?_map, counts_get _ _ hjl] at d2
        cases d2
        obtain ⟨K3, t1, t2, t3, _⟩ := d4 ty3 (.int .i64 ((inCount (j + 1) (gs.take i) : Int) + 1)) rfl rfl rfl
        refine oV_eq b1 (oHeap_eq s1 (oV_eq d1 (oV_eq (d3 ty3 rfl) (oV_eq (vInt_add _ _ _) (oV_eq d1 ?_)))))
        rw [wc]
        refine oHeap_eq t1 (oV_eq (vInt_add _ _ _) ?_)
        rw [w1]
        exact fin true K3 (by rw [decide_eq_true ck, decide_eq_true c4]; rfl) t2 (t3 s2 (by decide))
      · exact no false rfl (by rw [decide_eq_true ck, decide_eq_false c4]; rfl)
    · rw [decide_eq_false ck]
      exact condK_false (no false rfl (by rw [decide_eq_false ck, Bool.false_and]))
  termination_by d => d
theorem counted_out (hmx : ins.length ≤ 1000000) {G0 : Heap} (hfo : Found p gs ins gs.length) (hgm : gs.length ≤ 20000) {kn : Value → Heap → Prop} {Q : Ending → Heap → Prop} (h1 : ∀ R K v, Le G0 R → Rw R K v (eff gs ins) → fits p gs ins → kn v K) (h2 : ∀ K, Le G0 K → ¬ fits p gs ins → Q (.returned noV) K)
    (hin : Sl (eSlice (eInt .u64)) G0 iv ins) (ha : Sl (eInt .i64) G0 av (counts ins.length gs)) (hb : Sl eBool G0 bv ((bads ins gs gs.length).map (!·))) :
    ∀ (d i : Nat) (R K : Heap) (v : Value), Le G0 R → ins.length - i = d → i ≤ ins.length → Rw R K v ((eff gs ins).take i) → (∀ (j : Nat) (h : j < ins.length), j < i → (inCount (j + 1) gs : Int) = ins[j].length) →
      L12_5 av bv v iv (.int .i64 ins.length) (.int .i64 i) K kn Q
  | d, i, R, K, v, h0, hd, hi, hr, hl => by
    apply L12_5_round
    unfold m12_6
    have hel := eff_len gs ins
    have h0K := h0.trans hr.le
    refine oV_eq (vInt_lss _ _ _) (condK_dec (fun hlt => ?_) (fun hlt => ?_))
    rotate_left
    · have : i = ins.length := by omega
      subst this
      rw [← hel, List.take_length] at hr
      exact h1 R K v h0 hr (hfo.fits fun j h => hl j h h)
    have hlt' : i < ins.length := by omega
    obtain ⟨pi, ui, i1, i2, i3⟩ := hin.slice .i64 (i := (i : Int)) (by omega) (by omega) (ti := ty30) rfl
    have ei : ins.getD (i : Int).toNat [] = ins[i] := by simp [hlt']
    rw [ei] at i3
    obtain ⟨pa, a1, a2⟩ := (ha.mono h0K).int .i64 (i := (i : Int)) (by omega) (by rw [counts_len]; omega) (ti := ty3) rfl
    have ea : (counts ins.length gs).getD (i : Int).toNat 0 = inCount (i + 1) gs := by
      rw [Int.toNat_natCast, List.getD_eq_getElem?_getD, counts_get _ _ hlt']
      rfl
    rw [ea] at a2
    obtain ⟨pb, b1, b2⟩ := (hb.mono h0K).bool .i64 (i := (i : Int)) (by omega) (by rw [List.length_map, bads_len]; omega) (ti := ty4) rfl
    have eb : ((bads ins gs gs.length).map (!·)).getD (i : Int).toNat false = !(badUpto gs ins[i] (i + 1) gs.length) := by
      rw [Int.toNat_natCast, List.getD_eq_getElem?_getD, List.getElem?_map, bads_get _ _ _ hlt']
      rfl
    rw [eb] at b2
    refine oV_eq i1 (oV_eq (vLoad_mono h0K i2) (oV_eq a1 (oV_eq a2 (oV_eq (i3.mono h0K).len (oV_eq (vInt_neq _ _ _) (condK_dec (fun c => ?_) (fun c => ?_)))))))
    · exact h2 _ h0K fun hf => c (by have := (hf.2 i hlt').1; omega)
    have c : (inCount (i + 1) gs : Int) = ins[i].length := by simpa using c
    have w1 := wrap_i64 (show -9223372036854775808 ≤ (i : Int) + 1 by omega) (by omega)
    have hcl : inCount ((i : Int) + 1) gs ≤ gs.length := List.countP_le_length
    have ee : (eff gs ins)[i]'(by omega) = if badUpto gs ins[i] (i + 1) gs.length then List.replicate ins[i].length 0 else ins[i] := by
      have := eff_get gs ins hlt'
      rw [List.getElem?_eq_getElem (by omega)] at this
      exact Option.some.inj this
    have next : ∀ (R' K' : Heap) (u : Value), Le R R' → Rw R' K' v ((eff gs ins).take i) → Sl (eInt .u64) R' u ((eff gs ins)[i]'(by omega)) →
        oBuildS ty30 30 1 [((0, 1), u)] K' fun s_14 H_15 => oAppend ty30 30 v s_14 H_15 fun v_16 H_17 => oV (vInt .add (.int .i64 i) (.int .i64 1)) fun t126 => L12_5 av bv v_16 iv (.int .i64 ins.length) t126 H_17 kn Q := by
      intro R' K' u hR hr' hu
      refine hr'.app hu (by rw [List.length_take]; omega) fun v' K2 hr2 _ => oV_eq (vInt_add _ _ _) ?_
      rw [w1]
      refine counted_out hmx hfo hgm h1 h2 hin ha hb (d - 1) (i + 1) R' K2 v' (h0.trans hR) (by omega) (by omega) ?_ (fun j h hj => ?_)
      · rw [List.take_succ_eq_append_getElem (by omega)]
        exact hr2
      · by_cases e : j = i
        · subst e; exact c
        · exact hl j h (by omega)
    refine oV_eq b1 (oV_eq b2 ?_)
    cases hbd : badUpto gs ins[i] (i + 1) gs.length with
    | true =>
      rw [hbd, if_pos rfl] at ee
      refine oV_eq (v := .bool true) rfl (condK_true (oV_eq (i3.mono h0K).len ?_))
      refine oMake_own (te := ty22) rfl (by show 8 * _ ≤ _; omega) (by omega) fun s K1 hs => ?_
      rw [zerosL_one rfl] at hs
      have hs' : Grown K K1 (eInt .u64).sz 22 s (List.replicate ins[i].length (0 : Int)).length (List.replicate ins[i].length (.int .u64 0)) := by
        rw [List.length_replicate]
        exact hs
      obtain ⟨N, hN, hsl⟩ := hs'.made (e := eInt .u64) (fun K' j x hx => one_get _ j (.int .u64 x) (by
        obtain ⟨hj, rfl⟩ := List.getElem?_eq_some_iff.1 hx
        simp at hj
        simp [hj]))
      have hNR : ∀ k, N k ≠ none → R k = none := fun k hk => none_le hr.le (hN.2.2 k hk)
      refine next (hun R N) K1 s (hun_left _ _) (hr.news hN) ?_
      rw [ee]
      exact hsl.mono (hun_right hNR)
    | false =>
      rw [hbd, if_neg (by simp)] at ee
      refine oV_eq (v := .bool false) rfl (condK_false (next R K ui (Le.refl _) hr ?_))
      rw [ee]
      exact i3.mono h0
  termination_by d => d
theorem counted_spec {H : Heap} {c : Value} (h : Circ H c p gs os) (hin : Sl (eSlice (eInt .u64)) H iv ins) (hv : validGates p gs) (hgm : gs.length ≤ 20000) (hmx : ins.length ≤ 1000000) :
    RCalls Tryd.prog 12 [c, iv] H (Ret fun v H' => (fits p gs ins ∧ ∃ u R, v = .tuple #[u, .bool true] ∧ Le H R ∧ Rw R H' u (eff gs ins)) ∨ (¬ fits p gs ins ∧ v = noV ∧ Le H H')) := by
  apply call12
  unfold m12
  refine circ_new h fun jc H1 gv ov hl hc => ?_
  have hin1 := hin.mono hl
  refine oV_eq hin1.len (oV_eq hin1.len ?_)
  refine oMake_own (te := ty3) rfl (by show 8 * _ ≤ _; omega) (by omega) fun av H2 ha => ?_
  refine oMake_own (te := ty4) rfl (by show 1 * _ ≤ _; omega) (by omega) fun bv H3 hb => ?_
  rw [zerosL_one rfl] at ha hb
  unfold m12_10
  refine oV_eq hb.2.1.len ?_
  refine good_loop (G := H1) hmx (fun K ka kb => ?_) _ 0 H3 rfl (by omega) (ha.le hb.1) ?_
  rotate_left
  · rw [List.replicate_zero, List.nil_append, Nat.sub_zero]
    exact hb.less ha.1
  unfold m12_1 m12_7
  refine oV_eq (vField_to _ _) (oV_eq (hc.mono ka.1).lg (oV_eq hc.gates.len ?_))
  refine counted_gates hc hin1 hv hgm (fun K2 ka2 kb2 hfo => ?_) (fun K2 h2 hn => .inr ⟨hn, rfl, hl.trans h2⟩) _ 0 K rfl (by omega) ?_ ?_ (Found.zero _ _ _)
  rotate_left
  · rw [counts_zero]; exact ka
  · rw [goods_zero]; exact kb
  unfold m12_2 m12_4
  refine oV_eq (hin1.len) ?_
  have hl2 := hl.trans ka2.1
  refine counted_out (G0 := K2) (p := p) hmx hfo hgm (fun R K3 v hR hr hf => ?_) (fun K3 h3 hn => .inr ⟨hn, rfl, hl2.trans h3⟩) (hin1.mono ka2.1) (Own.sl_int (by rw [counts_len]; exact ka2.2.1)) ?_ _ 0 K2 K2 _ (Le.refl _) rfl (by omega) (by rw [List.take_zero]; exact Rw.nil _) (fun j h hj => absurd hj (by omega))
  · unfold m12_3
    exact .inl ⟨hf, v, R, rfl, hl2.trans hR, hr⟩
  · refine Own.sl_bool (t := 4) ?_
    rw [List.length_map, bads_len]
    have := kb2.2.1
    unfold goods at this
    rw [List.map_map]
    exact this
end
end Go.Proofs.YtpbaoefjkfdgmaaDoor.SL
