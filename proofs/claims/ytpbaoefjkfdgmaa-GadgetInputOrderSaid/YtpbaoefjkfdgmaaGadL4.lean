/- GadgetInputOrder. -/
import Derived.Test.YtpbaoefjkfdgmaaGadCo
set_option linter.unusedVariables false
set_option linter.unusedSimpArgs false
namespace Go.Proofs.Ytpbaoefjkfdgmaa.SL
open Go

/-! ### Below -/
theorem below_loop {H : Heap} {p : Int} {v : Value} {ws : List Int} (hv : Sl (eInt .u64) H v ws) (hm : ws.length ≤ 1000000) {kn : Heap → Prop} {Q : Ending → Heap → Prop} (hk : (∀ x ∈ ws, x < p) → kn H) (hq : ¬ (∀ x ∈ ws, x < p) → Q (.returned (.bool false)) H) :
    ∀ (d i : Nat), ws.length - i = d → i ≤ ws.length → (∀ x ∈ ws.take i, x < p) → L24_3 (.int .u64 p) v (.int .i64 i) H kn Q := by
  intro d
  induction d with
  | zero =>
    intro i hd hi hs
    apply L24_3_round
    unfold m24_4
    refine oV_eq hv.len (oV_eq (vInt_lss _ _ _) (condK_dec (fun hlt => absurd hlt (by omega)) (fun _ => ?_)))
    rw [List.take_of_length_le (by omega)] at hs
    exact hk hs
  | succ d ih =>
    intro i hd hi hs
    apply L24_3_round
    unfold m24_4
    refine oV_eq hv.len (oV_eq (vInt_lss _ _ _) (condK_dec (fun hlt => ?_) (fun hlt => absurd (by omega) hlt)))
    have hil : i < ws.length := by omega
    obtain ⟨q, f1, f2⟩ := hv.int .i64 (i := (i : Int)) (by omega) (by omega) (ti := ty22) rfl
    have e : ws.getD (i : Int).toNat 0 = ws[i] := by simp [hil]
    rw [e] at f2
    refine oV_eq f1 (oV_eq f2 (oV_eq (vInt_geq _ _ _) (condK_dec (fun hge => hq fun h => ?_) (fun hge => ?_))))
    · have := h _ (List.getElem_mem hil)
      omega
    · refine oV_eq (vInt_add _ _ _) ?_
      rw [wrap_i64 (by omega) (by omega)]
      refine ih (i + 1) (by omega) (by omega) fun x hx => ?_
      rw [List.take_succ_eq_append_getElem hil] at hx
      rcases List.mem_append.1 hx with hx | hx
      · exact hs x hx
      · rw [List.mem_singleton.1 hx]
        omega
theorem below_spec {H : Heap} {p : Int} {v : Value} {ws : List Int} (hv : Sl (eInt .u64) H v ws) (hm : ws.length ≤ 1000000) : RCalls Try.prog 24 [.int .u64 p, v] H (Ret fun r H' => H' = H ∧ ∃ b : Bool, r = .bool b ∧ (b = true → ∀ x ∈ ws, x < p)) := by
  apply call24
  unfold m24 m24_2
  refine below_loop (p := p) hv hm (fun h => ?_) (fun h => ⟨rfl, false, rfl, fun e => by cases e⟩) _ 0 rfl (by omega) (by simp)
  unfold m24_1
  exact ⟨rfl, true, rfl, fun _ => h⟩
/-! ### The gates and the lists -/
def ioBlk (k : Nat) (f : Int) : List Gate := [⟨1, f, 0, 0, 0⟩, ⟨3, 0, 4 * k, 4 * k + 1, 0⟩, ⟨2, 0, 0, 0, 1⟩, ⟨6, 0, 4 * k + 2, 4 * k + 3, 0⟩]
def ioG (fr : List Int) : Nat → List Gate
  | 0 => [⟨2, 0, 0, 0, 0⟩]
  | i + 1 => ioG fr i ++ ioBlk i (1 + fr.getD i 0 % 13)
def ioO : Nat → List Int
  | 0 => []
  | i + 1 => ioO i ++ [4 * (i : Int) + 1]
def ioL (fr ws : List Int) : Nat → List (List Int)
  | 0 => List.replicate 13 []
  | i + 1 => (ioL fr ws i).set (fr.getD i 0 % 13).toNat ((ioL fr ws i).getD (fr.getD i 0 % 13).toNat [] ++ [ws.getD i 0])
section
variable (fr ws : List Int)
theorem ioG_len : ∀ i, (ioG fr i).length = 4 * i + 1
  | 0 => rfl
  | i + 1 => by
    simp only [ioG, List.length_append, ioG_len i, ioBlk, List.length_cons, List.length_nil]
    omega
theorem ioO_len : ∀ i, (ioO i).length = i
  | 0 => rfl
  | i + 1 => by simp [ioO, ioO_len i]
theorem ioL_len : ∀ i, (ioL fr ws i).length = 13
  | 0 => rfl
  | i + 1 => by simp [ioL, ioL_len i]
theorem ioO_rng : ∀ i, ∀ o ∈ ioO i, 0 ≤ o ∧ o < 4 * i + 1
  | 0, o, h => by simp [ioO] at h
  | i + 1, o, h => by
    rcases List.mem_append.1 h with h | h
    · have := ioO_rng i o h
      omega
    · rw [List.mem_singleton.1 h]
      omega
theorem ioG_valid {p : Int} (hp : 31 ≤ p) : ∀ i, validGates p (ioG fr i)
  | 0 => by
    intro j h
    have : j = 0 := by simpa [ioG] using h
    subst this
    simp [ioG, validGate]
    omega
  | i + 1 => by
    intro j h
    have hl := ioG_len fr i
    simp only [ioG] at h ⊢
    by_cases c : j < (ioG fr i).length
    · rw [List.getElem_append_left c]
      exact ioG_valid hp i j c
    · rw [List.getElem_append_right (by omega)]
      have hb : (ioBlk i (1 + fr.getD i 0 % 13)).length = 4 := rfl
      rw [List.length_append, hb] at h
      have h1 := Int.emod_nonneg (fr.getD i 0) (show (13 : Int) ≠ 0 by decide)
      have h2 := Int.emod_lt_of_pos (fr.getD i 0) (show (0 : Int) < 13 by decide)
      have key : ∀ (f : Int), 1 ≤ f → f ≤ 13 → ∀ (k : Nat) (hk : k < 4), validGate p ((4 * i + 1 + k : Nat) : Int) ((ioBlk i f)[k]'hk) := by
        intro f f1 f2 k hk
        match k, hk with
        | 0, _ => exact .inl ⟨rfl, rfl, rfl, f1, f2, show (0 : Int) ≤ 1 by omega⟩
        | 1, _ => exact .inr (.inr (.inr ⟨.inl rfl, rfl, rfl, show (0 : Int) ≤ 4 * i by omega, show (4 * (i : Int)) < _ by omega, show (0 : Int) ≤ 4 * i + 1 by omega, show (4 * (i : Int) + 1) < _ by omega⟩))
        | 2, _ => exact .inr (.inl ⟨rfl, rfl, rfl, rfl, show (1 : Int) < p by omega⟩)
        | 3, _ => exact .inr (.inr (.inr ⟨.inr (.inr rfl), rfl, rfl, show (0 : Int) ≤ 4 * i + 2 by omega, show (4 * (i : Int) + 2) < _ by omega, show (0 : Int) ≤ 4 * i + 3 by omega, show (4 * (i : Int) + 3) < _ by omega⟩))
      have := key (1 + fr.getD i 0 % 13) (by omega) (by omega) (j - (ioG fr i).length) (by omega)
      rw [show 4 * i + 1 + (j - (ioG fr i).length) = j by omega] at this
      exact this
theorem ioG_wf : ∀ i, wfG (ioG fr i) ∧ ∀ g ∈ ioG fr i, g.kind = 1 → g.k = 0 ∧ 1 ≤ g.frm ∧ g.frm ≤ 13
  | 0 => by
    refine ⟨fun g hg => ?_, fun g hg hk => ?_⟩ <;> rw [List.mem_singleton.1 hg] at * <;> simp at *
  | i + 1 => by
    obtain ⟨h1, h2⟩ := ioG_wf i
    have r1 := Int.emod_nonneg (fr.getD i 0) (show (13 : Int) ≠ 0 by decide)
    have r2 := Int.emod_lt_of_pos (fr.getD i 0) (show (0 : Int) < 13 by decide)
    have hb : ∀ g ∈ ioBlk i (1 + fr.getD i 0 % 13), 0 ≤ g.k ∧ (g.kind = 1 → g.k = 0 ∧ 1 ≤ g.frm ∧ g.frm ≤ 13) := by
      intro g hg
      simp only [ioBlk, List.mem_cons, List.not_mem_nil, or_false] at hg
      rcases hg with rfl | rfl | rfl | rfl <;> simp <;> omega
    refine ⟨fun g hg => ?_, fun g hg hk => ?_⟩
    · rcases List.mem_append.1 hg with hg | hg
      · exact h1 g hg
      · exact (hb g hg).1
    · rcases List.mem_append.1 hg with hg | hg
      · exact h2 g hg hk
      · exact (hb g hg).2 hk
theorem ioBlk_in (k : Nat) (f g : Int) : inCount g (ioBlk k f) = if f = g then 1 else 0 := by
  unfold inCount ioBlk
  by_cases h : f = g <;> simp [inOf, h]
theorem getD_set {α : Type} (l : List α) (i j : Nat) (x d : α) (hj : j < l.length) : (l.set i x).getD j d = if i = j then x else l.getD j d := by
  rw [List.getD_eq_getElem?_getD, List.getElem?_set, List.getD_eq_getElem?_getD]
  by_cases h : i = j
  · subst h
    simp [hj]
  · simp [h]
theorem ioL_count : ∀ i, ∀ j < 13, ((ioL fr ws i).getD j []).length = inCount ((j : Int) + 1) (ioG fr i)
  | 0, j, hj => by
    have : (ioL fr ws 0).getD j [] = [] := by
      rw [List.getD_eq_getElem?_getD]
      show ((List.replicate 13 [])[j]?).getD [] = []
      rw [List.getElem?_replicate, if_pos hj]
      rfl
    rw [this]
    simp [ioG, inCount, inOf]
  | i + 1, j, hj => by
    have ih := ioL_count i j hj
    have r1 := Int.emod_nonneg (fr.getD i 0) (show (13 : Int) ≠ 0 by decide)
    simp only [ioL, ioG]
    rw [getD_set _ _ _ _ _ (by rw [ioL_len]; exact hj), inCount_append, ioBlk_in, ← ih]
    by_cases h : (fr.getD i 0 % 13).toNat = j
    · rw [if_pos h, if_pos (by omega), List.length_append, h]
      rfl
    · rw [if_neg h, if_neg (by omega)]
      rfl
theorem ioL_mem {P : Int → Prop} (h : ∀ x ∈ ws, P x) : ∀ i, i ≤ ws.length → ∀ j < 13, ∀ x ∈ (ioL fr ws i).getD j [], P x
  | 0, _, j, hj, x, hx => by
    have : (ioL fr ws 0).getD j [] = [] := by
      rw [List.getD_eq_getElem?_getD]
      show ((List.replicate 13 [])[j]?).getD [] = []
      rw [List.getElem?_replicate, if_pos hj]
      rfl
    rw [this] at hx
    cases hx
  | i + 1, hi, j, hj, x, hx => by
    simp only [ioL] at hx
    rw [getD_set _ _ _ _ _ (by rw [ioL_len]; exact hj)] at hx
    by_cases c : (fr.getD i 0 % 13).toNat = j
    · rw [if_pos c] at hx
      rcases List.mem_append.1 hx with hx | hx
      · rw [c] at hx
        exact ioL_mem h i (by omega) j hj x hx
      · rw [List.mem_singleton.1 hx]
        have : ws.getD i 0 = ws[i]'(by omega) := by simp [show i < ws.length by omega]
        rw [this]
        exact h _ (List.getElem_mem _)
    · rw [if_neg c] at hx
      exact ioL_mem h i (by omega) j hj x hx
theorem io_outs (p : Int) (l : List (List Int)) : ∀ i, i ≤ ws.length → (∀ j < 13, ∃ t, l.getD j [] = (ioL fr ws i).getD j [] ++ t) → outsOf p l (ioG fr i) (ioO i) = ws.take i
  | 0, _, _ => by simp [ioO, outsOf]
  | i + 1, hi, hl => by
    have r1 := Int.emod_nonneg (fr.getD i 0) (show (13 : Int) ≠ 0 by decide)
    have r2 := Int.emod_lt_of_pos (fr.getD i 0) (show (0 : Int) < 13 by decide)
    obtain ⟨j, hj⟩ : ∃ j : Nat, fr.getD i 0 % 13 = j := ⟨(fr.getD i 0 % 13).toNat, by omega⟩
    have hj13 : j < 13 := by omega
    have hjn : (fr.getD i 0 % 13).toNat = j := by omega
    have ih := io_outs p l i (by omega) (fun k hk => by
      obtain ⟨t, ht⟩ := hl k hk
      simp only [ioL] at ht
      rw [getD_set _ _ _ _ _ (by rw [ioL_len]; exact hk)] at ht
      by_cases c : (fr.getD i 0 % 13).toNat = k
      · rw [if_pos c, c, List.append_assoc] at ht
        exact ⟨_, ht⟩
      · rw [if_neg c] at ht
        exact ⟨t, ht⟩)
    have hlen := ioG_len fr i
    simp only [ioG, ioO, outsOf, List.map_append, List.map_cons, List.map_nil]
    rw [List.take_succ_eq_append_getElem (by omega)]
    congr 1
    · rw [← ih]
      refine List.map_congr_left fun o ho => ?_
      have := ioO_rng i o ho
      exact vals_app p l _ _ _ (by omega)
    · have e1 : (4 * (i : Int) + 1).toNat = (ioG fr i).length := by omega
      have h1 := vals_app p l [⟨3, 0, 4 * i, 4 * i + 1, 0⟩, ⟨2, 0, 0, 0, 1⟩, ⟨6, 0, 4 * i + 2, 4 * i + 3, 0⟩] (ioG fr i ++ [⟨1, 1 + fr.getD i 0 % 13, 0, 0, 0⟩]) (ioG fr i).length (by simp)
      rw [List.append_assoc] at h1
      rw [e1]
      refine congrArg (fun z => [z]) (Eq.trans h1 ?_)
      rw [vals_snoc, getD_snoc, vals_len, if_neg (Nat.lt_irrefl _), if_pos rfl]
      obtain ⟨t, ht⟩ := hl j hj13
      simp only [ioL] at ht
      rw [hjn, getD_set _ _ _ _ _ (by rw [ioL_len]; exact hj13), if_pos rfl] at ht
      simp only [gval, if_true]
      rw [hj, show (1 + (j : Int) - 1).toNat = j by omega, ht]
      have hc := ioL_count fr ws i j hj13
      rw [show (1 + (j : Int)) = (j : Int) + 1 by omega, ← hc, List.append_assoc, List.getD_eq_getElem?_getD, List.getElem?_append_right (Nat.le_refl _), Nat.sub_self]
      have : ws.getD i 0 = ws[i]'(by omega) := by simp [show i < ws.length by omega]
      simp [show i < ws.length by omega]
theorem eff_plain {gs : List Gate} {ins : List (List Int)} (h : ∀ g ∈ gs, g.kind = 1 → g.k = 0) : eff gs ins = ins := by
  have hb : ∀ (l : List Int) (f : Int) (i : Nat), badUpto gs l f i = false := by
    intro l f i
    induction i with
    | zero => rfl
    | succ i ih =>
      simp only [badUpto, ih, Bool.false_or]
      split
      · rename_i g hg
        have := h g (List.mem_of_getElem? hg)
        by_cases hk : g.kind = 1
        · simp [this hk]
        · simp [inOf, hk]
      · rfl
  apply List.ext_getElem?
  intro j
  by_cases hj : j < ins.length
  · rw [eff_get gs ins hj, hb, List.getElem?_eq_getElem hj]
    rfl
  · rw [List.getElem?_eq_none (by rw [eff_len]; omega), List.getElem?_eq_none (by omega)]
def allIn (gs : List Gate) : Nat := gs.countP fun g => decide (g.kind = 1)
theorem ioG_all : ∀ i, allIn (ioG fr i) = i
  | 0 => rfl
  | i + 1 => by
    have : allIn (ioG fr (i + 1)) = allIn (ioG fr i) + 1 := by
      simp only [allIn, ioG, List.countP_append]
      congr 1
    rw [this, ioG_all i]
theorem allIn_take (gs : List Gate) (i : Nat) (h : i < gs.length) : allIn (gs.take (i + 1)) = allIn (gs.take i) + if gs[i].kind = 1 then 1 else 0 := by
  unfold allIn
  rw [List.take_succ_eq_append_getElem h, List.countP_append, List.countP_singleton]
  congr 1
  simp
end
/-! ### Slices in a slice -/
structure Ls (G0 G : Heap) (v : Value) (rows : List (List Int)) : Prop where
  ex : ∃ us, us.length = rows.length ∧ Grown G0 G 1 35 v rows.length us ∧ (∀ (j : Nat) u r, us[j]? = some u → rows[j]? = some r → Grown G0 G 1 22 u r.length (r.map (.int .u64))) ∧
    ∀ (i j : Nat) u w b, i ≠ j → us[i]? = some u → us[j]? = some w → blkOf u = some b → blkOf w ≠ some b
theorem Ls.le {G0 G K : Heap} {v : Value} {rows : List (List Int)} (h : Ls G0 G v rows) (hl : Le G K) : Ls G0 K v rows := by
  obtain ⟨us, h1, h2, h3, h4⟩ := h.ex
  exact ⟨us, h1, h2.le hl, fun j u r hu hr => (h3 j u r hu hr).le hl, h4⟩
theorem Ls.sl {G0 G : Heap} {v : Value} {rows : List (List Int)} (h : Ls G0 G v rows) : Sl (eSlice (eInt .u64)) G v rows := by
  obtain ⟨us, h1, h2, h3, h4⟩ := h.ex
  refine rows_sl h2.2.1 fun j hj => ?_
  have hj' : j < us.length := by omega
  exact ⟨us[j], List.getElem?_eq_getElem hj', Own.sl_int (t := 22) (h3 j _ _ (List.getElem?_eq_getElem hj') (List.getElem?_eq_getElem hj)).2.1⟩
theorem Ls.zero {G0 G : Heap} {v : Value} {n : Nat} (h : Grown G0 G 1 35 v n (List.replicate n (.slice none 0 0))) : Ls G0 G v (List.replicate n []) := by
  refine ⟨List.replicate n (.slice none 0 0), by simp, by simpa using h, fun j u r hu hr => ?_, fun i j u w b _ hu _ hb => ?_⟩
  · rw [List.getElem?_replicate] at hu hr
    by_cases c : j < n
    · rw [if_pos c] at hu hr
      cases hu
      cases hr
      exact (Grown.nil G 1 22).less h.1
    · rw [if_neg c] at hu
      cases hu
  · rw [List.getElem?_replicate] at hu
    by_cases c : i < n
    · rw [if_pos c] at hu
      cases hu
      cases hb
    · rw [if_neg c] at hu
      cases hu
/-- One more word in the row j, beside a builder. -/
theorem Ls.add {G0 G K : Heap} {v b : Value} {rows : List (List Int)} {p x : Int} {gs : List Gate} {os : List Int} {j : Nat} {k : Heap → Prop} (h : Ls G0 G v rows) (hB : Bd G K b p gs os) (hj : j < rows.length) (hm : ∀ r ∈ rows, r.length ≤ 1000)
    (hk : ∀ G' K', Bd G' K' b p gs os → Ls G0 G' v (rows.set j (rows.getD j [] ++ [x])) → k K') :
    ∃ pt u, vIdxS 1 v (.int .i64 j) = some pt ∧ vLoad ty35 pt K = some u ∧ oBuildS ty22 22 1 [((0, 1), .int .u64 x)] K fun s H1 => oAppend ty22 22 u s H1 fun w H2 => oV (vIdxS 1 v (.int .i64 j)) fun pt => oHeap (vStore ty35 pt w H2) k := by
  obtain ⟨us, h1, h2, h3, h4⟩ := h.ex
  have hju : j < us.length := by omega
  obtain ⟨hle, ho, hn⟩ := h2
  have hol := ho.length
  rcases ho with ⟨_, e, _⟩ | ⟨jl, cap, rfl, c1, c2, c3, c4⟩
  · omega
  have hKl := hB.le _ _ c3
  have hgj := h3 j us[j] rows[j] (List.getElem?_eq_getElem hju) (List.getElem?_eq_getElem hj)
  have hrl := hm _ (List.getElem_mem hj)
  have hix : vIdxS 1 (.slice (some ⟨jl, 0, none⟩) rows.length cap) (.int .i64 j) = some (.pointer (some ⟨jl, j, none⟩)) := by
    simp only [vIdxS]
    rw [if_pos (by omega)]
    simp
  refine ⟨.pointer (some ⟨jl, j, none⟩), us[j], hix, ?_, ?_⟩
  · simp only [vLoad, hKl, show (ty35).agg = false from rfl, Bool.false_eq_true, if_false]
    exact List.getElem?_eq_getElem hju
  · have hjlu : ∀ (i : Nat) u, us[i]? = some u → blkOf u ≠ some jl := fun i u hu e => by
      have hi : i < rows.length := by have := (List.getElem?_eq_some_iff.1 hu).1; omega
      obtain ⟨_, _, h5⟩ := (h3 i u rows[i] hu (List.getElem?_eq_getElem hi)).2.1.at_ e
      rw [c3] at h5
      cases h5
    refine bd_append2 (te := ty22) hB hgj rfl rfl (fun c hc => by rw [List.mem_singleton.1 hc]; rfl) (by show 0 < 1; omega) (by show (_ + 1) * 8 ≤ _; omega) (by omega) fun w G2 K2 hB2 hg2 hoth => ?_
    obtain ⟨o1, o2⟩ := hoth jl _ (hjlu j _ (List.getElem?_eq_getElem hju)) c3
    have hK2 := hB2.le _ _ o1
    have st : vStore ty35 (.pointer (some ⟨jl, j, none⟩)) w K2 = some (hins K2 jl (.cells (us.set j w) (cap * 1) 35 true)) := by
      obtain ⟨_, _, hw, _⟩ := hg2.2.1.read
      simp only [vStore, hK2, stCells, show (ty35).agg = false from rfl, Bool.false_eq_true, if_false]
      rw [if_pos ⟨rfl, by rw [hw]; rfl, hju⟩]
      rfl
    refine oV_eq hix (oHeap_eq st (hk _ _ (hB2.put (by rw [o1]; simp) _) ⟨us.set j w, by simpa using h1, ?_, fun i u r hu hr => ?_, fun i i' u u' bb hii hu hu' hb => ?_⟩))
    · rw [List.length_set]
      refine ⟨fun q c hq => ?_, .inr ⟨jl, cap, rfl, c1, c2, hins_self _ _ _, by simpa using c4⟩, hn⟩
      rw [hins_other _ _ (fun e => by subst e; rw [hn _ rfl] at hq; cases hq)]
      exact hg2.1 _ _ hq
    · have hG0 : G0 jl = none := hn jl rfl
      by_cases c : j = i
      · subst c
        rw [List.getElem?_set_self (by omega)] at hu hr
        cases hu
        cases hr
        have e : rows.getD j [] = rows[j] := by simp [hj]
        rw [e, List.length_append, List.map_append]
        exact grown_put hg2 hG0 o2 _
      · rw [List.getElem?_set_ne c] at hu hr
        have hg := h3 i u r hu hr
        refine grown_put (G := G2) ⟨hg2.1, hg.2.1.mono fun q hq => ?_, hg.2.2⟩ hG0 (hjlu i u hu) _
        obtain ⟨_, _, h5⟩ := hg.2.1.at_ hq
        have := (hoth q _ (fun e => h4 j i _ _ q c (List.getElem?_eq_getElem hju) hu e hq) h5).1
        rw [this, h5]
    · have key : ∀ (m : Nat) z q, m ≠ j → us[m]? = some z → blkOf z = some q → blkOf w ≠ some q := fun m z q hm hz hq => by
        have hmr : m < rows.length := by have := (List.getElem?_eq_some_iff.1 hz).1; omega
        obtain ⟨_, _, h5⟩ := (h3 m z rows[m] hz (List.getElem?_eq_getElem hmr)).2.1.at_ hq
        exact (hoth q _ (fun e => h4 j m _ _ q (Ne.symm hm) (List.getElem?_eq_getElem hju) hz e hq) h5).2
      by_cases c : j = i
      · subst c
        rw [List.getElem?_set_self hju] at hu
        rw [List.getElem?_set_ne hii] at hu'
        cases hu
        exact fun e => key i' u' bb (Ne.symm hii) hu' e hb
      · rw [List.getElem?_set_ne c] at hu
        by_cases c' : j = i'
        · subst c'
          rw [List.getElem?_set_self hju] at hu'
          cases hu'
          exact key i u bb hii hu hb
        · rw [List.getElem?_set_ne c'] at hu'
          exact h4 i i' u u' bb hii hu hu' hb
/-! ### The walk -/
section
variable {p : Int} {fv wv : Value} {fr ws : List Int}
theorem io_loop {G0 : Heap} {b lv : Value} (hp : Supp p) (hf : Sl (eInt .u8) G0 fv fr) (hw : Sl (eInt .u64) G0 wv ws) (hl : ws.length = fr.length) (hm : fr.length ≤ 20) (hfr : ∀ x ∈ fr, 0 ≤ x ∧ x ≤ 255) {kn : Value → Value → Value → Value → Heap → Prop} {Q : Ending → Heap → Prop}
    (hk : ∀ G K, Bd G K b p (ioG fr fr.length) (ioO fr.length) → Ls G0 G lv (ioL fr ws fr.length) → kn fv wv b lv K) :
    ∀ (d i : Nat) (G K : Heap), fr.length - i = d → i ≤ fr.length → Bd G K b p (ioG fr i) (ioO i) → Le G0 G → Ls G0 G lv (ioL fr ws i) → L4_7 fv wv b lv (.int .i64 (4 * (i : Int))) (.int .i64 i) K kn Q := by
  have hpp := hp.pos
  intro d
  induction d with
  | zero =>
    intro i G K hd hi hB h0 hL
    apply L4_7_round
    unfold m4_8
    refine oV_eq hf.len (oV_eq (vInt_lss _ _ _) (condK_dec (fun hlt => absurd hlt (by omega)) (fun _ => ?_)))
    have : i = fr.length := by omega
    subst this
    exact hk G K hB hL
  | succ d ih =>
    intro i G K hd hi hB h0 hL
    apply L4_7_round
    unfold m4_8
    refine oV_eq hf.len (oV_eq (vInt_lss _ _ _) (condK_dec (fun hlt => ?_) (fun hlt => absurd (by omega) hlt)))
    have hil : i < fr.length := by omega
    obtain ⟨q, f1, f2⟩ := (hf.mono (h0.trans hB.le)).int .i64 (i := (i : Int)) (by omega) (by omega) (ti := ty5) rfl
    have e : fr.getD (i : Int).toNat 0 = fr.getD i 0 := by rw [Int.toNat_natCast]
    rw [e] at f2
    have hx : 0 ≤ fr.getD i 0 ∧ fr.getD i 0 ≤ 255 := by
      have : fr.getD i 0 = fr[i] := by simp [hil]
      rw [this]
      exact hfr _ (List.getElem_mem hil)
    have r1 := Int.emod_nonneg (fr.getD i 0) (show (13 : Int) ≠ 0 by decide)
    have r2 := Int.emod_lt_of_pos (fr.getD i 0) (show (0 : Int) < 13 by decide)
    obtain ⟨j, hj⟩ : ∃ j : Nat, fr.getD i 0 % 13 = j := ⟨(fr.getD i 0 % 13).toNat, by omega⟩
    refine oV_eq f1 (oV_eq f2 (oV_eq (vConv_int _ _ _) ?_))
    rw [wrap_i64 (by omega) (by omega)]
    refine oV_eq (v := .int .i64 j) ?_ (oV_eq (vInt_add _ _ _) ?_)
    · rw [vInt_rem, if_neg (by decide), Int.tmod_eq_emod_of_nonneg hx.1, hj]
    rw [wrap_i64 (by omega) (by omega)]
    have hlen := ioG_len fr i
    refine oRC_ret (input_puts b p (1 + (j : Int)) false _ _ _ _ hB (by omega)) fun v1 K1 hv => ?_
    obtain ⟨rfl, hB1⟩ := hv
    refine oRC_ret (add_puts b p _ _ _ _ _ _ hB1 (by simp [pIn]; omega)) fun v1 K2 hv => ?_
    obtain ⟨rfl, hB2⟩ := hv
    refine oRC_ret (const_puts b p 1 _ _ _ _ hB2 (by simp [pIn]; omega)) fun v1 K3 hv => ?_
    obtain ⟨rfl, hB3⟩ := hv
    refine oRC_ret (mul_puts b p _ _ _ _ _ _ hB3 (by simp [pIn]; omega)) fun v1 K4 hv => ?_
    obtain ⟨rfl, hB4⟩ := hv
    refine oRC_ret (output_spec hB4 _ (by rw [ioO_len]; omega)) fun v1 K5 hB5 => ?_
    have eg : (pMul (pAdd (4 * (i : Int)) (pIn (1 + (j : Int)) false (ioG fr i)).1 (pIn (1 + (j : Int)) false (ioG fr i)).2).1 (pConst 1 (pAdd (4 * (i : Int)) (pIn (1 + (j : Int)) false (ioG fr i)).1 (pIn (1 + (j : Int)) false (ioG fr i)).2).2).1 (pConst 1 (pAdd (4 * (i : Int)) (pIn (1 + (j : Int)) false (ioG fr i)).1 (pIn (1 + (j : Int)) false (ioG fr i)).2).2).2).2 = ioG fr (i + 1) := by
      simp only [ioG, ioBlk, pMul, pAdd, pConst, pIn, put, List.append_assoc, List.length_append, List.length_cons, List.length_nil, hlen, hj]
      simp
      omega
    have eo : ioO i ++ [(pIn (1 + (j : Int)) false (ioG fr i)).1] = ioO (i + 1) := by
      simp only [ioO, pIn, put, hlen]
      congr 2
    have el : (pMul (pAdd (4 * (i : Int)) (pIn (1 + (j : Int)) false (ioG fr i)).1 (pIn (1 + (j : Int)) false (ioG fr i)).2).1 (pConst 1 (pAdd (4 * (i : Int)) (pIn (1 + (j : Int)) false (ioG fr i)).1 (pIn (1 + (j : Int)) false (ioG fr i)).2).2).1 (pConst 1 (pAdd (4 * (i : Int)) (pIn (1 + (j : Int)) false (ioG fr i)).1 (pIn (1 + (j : Int)) false (ioG fr i)).2).2).2).1 = 4 * ((i + 1 : Nat) : Int) := by
      simp only [pMul, pAdd, pConst, pIn, put, List.append_assoc, List.length_append, List.length_cons, List.length_nil, hlen]
      omega
    rw [eg, eo] at hB5
    rw [el]
    refine oV_eq (vInt_sub _ _ _) (oV_eq (vInt_sub _ _ _) ?_)
    rw [wrap_i64 (by omega) (by omega), show (1 + (j : Int) - 1) = (j : Int) by omega]
    obtain ⟨q2, g1, g2⟩ := (hw.mono (h0.trans hB5.le)).int .i64 (i := (i : Int)) (by omega) (by omega) (ti := ty22) rfl
    rw [Int.toNat_natCast] at g2
    have hcnt : ∀ r ∈ ioL fr ws i, r.length ≤ 1000 := fun r hr => by
      obtain ⟨m, hm1, rfl⟩ := List.mem_iff_getElem.1 hr
      have h13 := ioL_len fr ws i
      have := ioL_count fr ws i m (by omega)
      have e2 : (ioL fr ws i).getD m [] = (ioL fr ws i)[m] := by simp [hm1]
      rw [e2] at this
      rw [this]
      have := List.countP_le_length (p := inOf ((m : Int) + 1)) (l := ioG fr i)
      unfold inCount
      omega
    obtain ⟨pt, u, a1, a2, a3⟩ := hL.add (x := ws.getD i 0) (j := j) (k := fun K2 => oV (vInt .add (.int .i64 i) (.int .i64 1)) fun t49 => L4_7 fv wv b lv (.int .i64 (4 * ((i + 1 : Nat) : Int))) t49 K2 kn Q) hB5 (by rw [ioL_len]; omega) hcnt fun G2 K2 hB6 hL6 => oV_eq (vInt_add _ _ _) (by
      rw [wrap_i64 (by omega) (by omega)]
      refine ih (i + 1) G2 K2 (by omega) (by omega) hB6 ?_ ?_
      · obtain ⟨us, _, h2, _⟩ := hL6.ex
        exact h2.1
      · simp only [ioL]
        rw [show (fr.getD i 0 % 13).toNat = j by omega]
        exact hL6)
    exact oV_eq a1 (oV_eq a2 (oV_eq g1 (oV_eq g2 a3)))
theorem ioin_loop {G : Heap} {jc : Nat} {gv ov lv : Value} {gs : List Gate} {os : List Int} (hc : CircAt G jc p gv ov gs os) {kn : Value → Value → Value → Value → Value → Heap → Prop} {Q : Ending → Heap → Prop} (h1 : kn fv wv lv (ptrTo jc) (.int .i64 (allIn gs)) G) :
    ∀ (d i : Nat), gs.length - i = d → i ≤ gs.length → L4_4 fv wv lv (ptrTo jc) (.int .i64 (allIn (gs.take i))) (.int .i64 i) G kn Q := by
  intro d
  induction d with
  | zero =>
    intro i hd hi
    apply L4_4_round
    unfold m4_5
    refine oV_eq (vField_to _ _) (oV_eq hc.lg (oV_eq hc.gates.len (oV_eq (vInt_lss _ _ _) (condK_dec (fun hlt => absurd hlt (by omega)) (fun _ => ?_)))))
    rw [List.take_of_length_le (by omega)]
    exact h1
  | succ d ih =>
    intro i hd hi
    apply L4_4_round
    unfold m4_5
    have hm := hc.gates.max
    have hil : i < gs.length := by omega
    obtain ⟨q, off, g1, g2, g3, g4⟩ := hc.gates.gate hil
    have hs := allIn_take gs i hil
    have hb : allIn (gs.take i) ≤ i := by
      have h2 := List.countP_le_length (p := fun g : Gate => decide (g.kind = 1)) (l := gs.take i)
      rw [List.length_take] at h2
      unfold allIn
      omega
    have w1 := wrap_i64 (show -9223372036854775808 ≤ (i : Int) + 1 by omega) (by omega)
    have w2 := wrap_i64 (show -9223372036854775808 ≤ (allIn (gs.take i) : Int) + 1 by omega) (by omega)
    have := ih (i + 1) (by omega) (by omega)
    refine oV_eq (vField_to _ _) (oV_eq hc.lg (oV_eq hc.gates.len (oV_eq (vInt_lss _ _ _) (condK_dec (fun hlt => ?_) (fun hlt => absurd (by omega) hlt)))))
    simp only [↓hs_some, ↓hs_fieldto, ↓hs_field, ↓hs_nilto, ↓hs_nilp, ↓hs_gTT, ↓hs_gFF, ↓hs_gTF, ↓hs_gFT, ↓hs_pickT, ↓hs_pickF, ↓hs_not, ↓hs_len, ↓hs_conv, ↓hs_ex0, ↓hs_ex1, ↓hs_add, ↓hs_sub, ↓hs_mul, ↓hs_eql, ↓hs_neq, ↓hs_lss, ↓hs_leq, ↓hs_gtr, ↓hs_geq, ↓oV_of hc.lg, ↓oV_of g1, ↓oV_of g3]
    refine condK_dec (fun c => ?_) (fun c => ?_)
    · simp only [↓hs_some, ↓hs_fieldto, ↓hs_field, ↓hs_nilto, ↓hs_nilp, ↓hs_gTT, ↓hs_gFF, ↓hs_gTF, ↓hs_gFT, ↓hs_pickT, ↓hs_pickF, ↓hs_not, ↓hs_len, ↓hs_conv, ↓hs_ex0, ↓hs_ex1, ↓hs_add, ↓hs_sub, ↓hs_mul, ↓hs_eql, ↓hs_neq, ↓hs_lss, ↓hs_leq, ↓hs_gtr, ↓hs_geq, w1, w2]
      rw [hs, if_pos c] at this
      exact this
    · simp only [↓hs_some, ↓hs_fieldto, ↓hs_field, ↓hs_nilto, ↓hs_nilp, ↓hs_gTT, ↓hs_gFF, ↓hs_gTF, ↓hs_gFT, ↓hs_pickT, ↓hs_pickF, ↓hs_not, ↓hs_len, ↓hs_conv, ↓hs_ex0, ↓hs_ex1, ↓hs_add, ↓hs_sub, ↓hs_mul, ↓hs_eql, ↓hs_neq, ↓hs_lss, ↓hs_leq, ↓hs_gtr, ↓hs_geq, w1]
      rw [hs, if_neg c] at this
      exact this
theorem inputOrder_law {H : Heap} (hf : Sl (eInt .u8) H fv fr) (hw : Sl (eInt .u64) H wv ws) (hfr : ∀ x ∈ fr, 0 ≤ x ∧ x ≤ 255) (hws : ∀ x ∈ ws, 0 ≤ x ∧ x ≤ 18446744073709551615) : RCalls Try.prog 4 [.int .u64 p, fv, wv] H (Ret fun v _ => v = .bool true) := by
  apply call4
  unfold m4
  refine oRC_grow (awake_spec H) fun H2 l2 => ?_
  refine oV_eq rfl (condK_false ?_)
  refine oRC_grow (supported_spec H2 p) fun H3 l3 => ?_
  have l13 := l2.trans l3
  by_cases hp : Supp p
  case neg =>
    rw [decide_eq_false hp]
    exact gK_TF (condK_true rfl)
  rw [decide_eq_true hp]
  have hpp := hp.pos
  refine oV_eq (v := .bool false) rfl (oV_eq (v := fv) rfl (oV_eq (v := .int .i64 fr.length) hf.len (oV_eq (vInt_gtr .i64 (fr.length : Int) 20) (oV_eq rfl ?_))))
  by_cases c0 : 20 < (fr.length : Int)
  case pos =>
    rw [decide_eq_true c0]
    exact gK_TF (condK_true rfl)
  rw [decide_eq_false c0]
  refine oV_eq (v := wv) rfl (oV_eq (v := .int .i64 ws.length) hw.len (oV_eq (v := fv) rfl (oV_eq (v := .int .i64 fr.length) hf.len (oV_eq (vInt_neq .i64 (ws.length : Int) (fr.length : Int)) (oV_eq rfl ?_)))))
  by_cases c1 : (ws.length : Int) ≠ (fr.length : Int)
  case pos =>
    rw [decide_eq_true c1]
    exact gK_TF (condK_true rfl)
  rw [decide_eq_false c1]
  have hl : ws.length = fr.length := by omega
  refine oV_eq (v := .int .u64 p) rfl (oV_eq (v := wv) rfl ?_)
  refine gK_FF (oRC_ret (below_spec (p := p) (hw.mono l13) (by omega)) fun r K0 hr => ?_)
  obtain ⟨rfl, bb, rfl, hbb⟩ := hr
  cases bb with
  | false => exact condK_true rfl
  | true =>
    have hlt := hbb rfl
    refine oV_eq (v := .bool false) rfl (oV_eq (v := .bool false) rfl (condK_false ?_))
    refine oRC_ret (new_spec K0 p) fun b K1 h => ?_
    refine oMake_own (te := ty35) (n := 13) rfl (by decide) (by decide) fun lv K2 hg => ?_
    rw [zerosL_one rfl] at hg
    obtain ⟨N, hN, hgN⟩ := hg.new h.le
    replace h := h.news hN
    have hL : Ls K0 (hun K0 N) lv (ioL fr ws 0) := Ls.zero (n := 13) hgN
    refine oRC_ret (const_puts b p 0 _ _ _ _ h (Nat.le_of_ble_eq_true rfl)) fun v K3 hv => ?_
    obtain ⟨rfl, h⟩ := hv
    unfold m4_6
    refine io_loop (G0 := K0) hp (hf.mono l13) (hw.mono l13) hl (by omega) hfr (fun G K hB hL => ?_) _ 0 (hun K0 N) K3 rfl (by omega) h hgN.1 hL
    obtain ⟨us, _, h2, _⟩ := hL.ex
    have l4 := h2.1
    clear h2
    unfold m4_1
    have hgl := ioG_len fr fr.length
    have hol := ioO_len fr.length
    refine oRC_ret (circuit_spec hB (by omega) (by omega)) fun c K4 hv => ?_
    obtain ⟨G', hG, hB4, hC⟩ := hv
    refine local_circ (hC.mono hB4.le) fun i gv ov hi e sg so => ?_
    subst e
    have hl2 := Le.ins (.cells [.int .u64 p, gv, ov] 3 40 true) hi
    have hcc : CircAt (hins K4 i (.cells [.int .u64 p, gv, ov] 3 40 true)) i p gv ov (ioG fr fr.length) (ioO fr.length) := ⟨hins_self _ _ _, sg.mono hl2, so.mono hl2⟩
    generalize hins K4 i (.cells [.int .u64 p, gv, ov] 3 40 true) = K5 at hl2 hcc ⊢
    have lK : Le G K5 := (hG.trans hB4.le).trans hl2
    unfold m4_3
    refine ioin_loop hcc ?_ _ 0 rfl (by omega)
    unfold m4_2
    rw [ioG_all]
    refine oV_eq (((hf.mono l13).mono l4).mono lK).len (oV_eq (vInt_eql _ _ _) ?_)
    rw [decide_eq_true rfl]
    refine oV_eq (v := .agg #[.int .u64 p, gv, ov]) hcc.lc (oV_eq (v := lv) rfl (oV_eq (v := wv) rfl ?_))
    have hrl := ioL_len fr ws fr.length
    refine gK_TT (oRC_grow (tells_spec (gs := ioG fr fr.length) (os := ioO fr.length) (ins := ioL fr ws fr.length) hcc.circ (hL.sl.mono lK) (((hw.mono l13).mono l4).mono lK) (ioG_wf fr _).1 ?_ (by omega) ⟨hp, by omega, by omega, ioG_valid fr hpp.1 _, ?_⟩ ⟨?_, ?_⟩ ?_) fun K6 _ => ?_)
    · intro l hl2 x hx
      obtain ⟨m, hm1, rfl⟩ := List.mem_iff_getElem.1 hl2
      have := ioL_mem fr ws (P := fun x => 0 ≤ x) (fun x hx => (hws x hx).1) fr.length (by omega) m (by omega) x
      rw [show (ioL fr ws fr.length).getD m [] = (ioL fr ws fr.length)[m] by simp [hm1]] at this
      exact this hx
    · intro o ho
      have := ioO_rng fr.length o ho
      omega
    · intro m hm1 hk1
      have := ((ioG_wf fr fr.length).2 _ (List.getElem_mem hm1) hk1).2.2
      omega
    · intro m hm1
      have e := show (ioL fr ws fr.length).getD m [] = (ioL fr ws fr.length)[m] by simp [hm1]
      rw [← e]
      exact ⟨ioL_count fr ws _ m (by omega), ioL_mem fr ws hlt _ (by omega) m (by omega)⟩
    · rw [eff_plain fun g hg hk => ((ioG_wf fr fr.length).2 g hg hk).1, io_outs fr ws p _ fr.length (by omega) fun m hm => ⟨[], by simp⟩, List.take_of_length_le (by omega)]
    · exact oV_eq (v := .bool true) rfl rfl
theorem inputOrder_in {H : Heap} {p : Int} {fv wv : Value} {fr ws : List Int} (_ : 0 ≤ p ∧ p ≤ 18446744073709551615) (hf : Sl (eInt .u8) H fv fr) (hfr : ∀ x ∈ fr, 0 ≤ x ∧ x ≤ 255) (hw : Sl (eInt .u64) H wv ws) (hws : ∀ x ∈ ws, 0 ≤ x ∧ x ≤ 18446744073709551615) :
    RCalls Try.prog 4 [.int .u64 p, fv, wv] H (Ret fun v _ => v = .bool true) := inputOrder_law hf hw hfr hws
end
end Go.Proofs.Ytpbaoefjkfdgmaa.SL
