/- The builder's methods that read the prime; the circuit. -/
import Derived.Test.YtpbaoefjkfdgmaaGadC
set_option linter.unusedVariables false
set_option linter.unusedSimpArgs false
namespace Go.Proofs.Ytpbaoefjkfdgmaa.SL
open Go

theorem hins_hins (H : Heap) (i : Nat) (c c' : Blk) : hins (hins H i c) i c' = hins H i c' := by
  funext j
  by_cases e : j = i
  · subst e; simp
  · simp [hins_other _ _ e]
section
variable {G H : Heap} {b : Value} {p : Int} {gs : List Gate} {os : List Int}
theorem Bd.ptr (h : Bd G H b p gs os) : ∃ jb, b = ptrTo jb := by
  obtain ⟨_, jb, gv, ov, rfl, _⟩ := h
  exact ⟨jb, rfl⟩
theorem Bd.loadP {jb : Nat} (h : Bd G H (ptrTo jb) p gs os) : vLoad ty22 (.pointer (some ⟨jb, 0, none⟩)) H = some (.int .u64 p) := by
  obtain ⟨_, jb', gv, ov, e, hb, _⟩ := h
  cases e
  simp only [vLoad, hb]
  rfl
theorem Bd.news {H' N : Heap} (h : Bd G H b p gs os) (hn : New H H' N) : Bd (hun G N) H' b p gs os := by
  obtain ⟨hle, jb, gv, ov, rfl, hb, hG, ho, hog, hp, hpg⟩ := h.grow hn.1
  obtain ⟨h0, jb', gv', ov', e, hb', _, ho', _, hp', _⟩ := h
  cases e
  have e2 := hn.1 _ _ hb'
  rw [hb] at e2
  cases e2
  have key : ∀ j c, G j = none → H j = some c → hun G N j = none := fun j c hj hc => hun_none.2 ⟨hj, by
    cases he : N j with
    | none => rfl
    | some d => rw [hn.2.2 j (by rw [he]; simp)] at hc; cases hc⟩
  refine ⟨hun_le hle hn.2.1, _, _, _, rfl, hb, key _ _ hG hb', ho, fun j hj => ?_, hp, fun j hj => ?_⟩
  · obtain ⟨_, _, h1⟩ := ho'.at_ hj
    exact key j _ (hog j hj) h1
  · obtain ⟨_, _, h1⟩ := hp'.at_ hj
    exact key j _ (hpg j hj) h1
variable (b p)
theorem without_puts (hp : Supp p) (x y z : Int) : Puts 56 [b, .int .i64 x, .int .i64 y, .int .i64 z] b p (pWithout x y z) 3 := by
  intro G H gs os h hn
  apply call56
  unfold m56
  obtain ⟨jb, rfl⟩ := h.ptr
  simp only [vNil_to, vField_to, oV_some, h.loadP]
  refine oRC_ret (add_puts _ p x y _ _ _ _ h (by omega)) fun v H' hv => ?_
  obtain ⟨rfl, h⟩ := hv
  refine ⟨h.loadP, ?_⟩
  refine oRC_val (reduce_spec _ hp (by omega) (by omega)) ?_
  have h2 : (2 : Int) % p = 2 := Int.emod_eq_of_lt (by omega) (by have := hp.pos; omega)
  rw [h2]
  refine oRC_ret (scale_puts _ p 2 z _ _ _ _ h (by simp [pAdd]; omega)) fun v H' hv => ?_
  obtain ⟨rfl, h⟩ := hv
  refine oRC_ret (sub_puts _ p _ _ _ _ _ _ h (by simp [pAdd, pScale]; omega)) fun v H' hv => ?_
  exact hv
theorem xor_puts (hp : Supp p) (x y : Int) : Puts 31 [b, .int .i64 x, .int .i64 y] b p (pXor x y) 4 := fun G H gs os h hn =>
  call31 _ _ _ _ _ (oRC_ret (mul_puts b p x y _ _ _ _ h (by omega)) fun v H' ⟨e, h⟩ => by
    subst e
    exact oRC_ret (without_puts b p hp x y _ _ _ _ _ h (by simp [pMul]; omega)) fun v H' r => r)
end
/-! ### The circuit -/
theorem clone_gates {H : Heap} {v : Value} {gs : List Gate} (h : Own 5 47 H v gs.length (gcells gs)) (hn : gs.length ≤ 1000000000) : RCalls Try.prog 54 [v] H (Made eGate gs H) := by
  apply call54
  unfold m54
  obtain ⟨b, cap, hv, hc, hr⟩ := h.read
  rcases h with ⟨h1, h2, h3⟩ | ⟨j, cap', h1, h2, h3, h4, h5⟩
  · subst h1
    rw [List.eq_nil_of_length_eq_zero h2]
    exact condK_true ((Grown.nil H 5 47).made (e := eGate) (xs := []) (fun K i x hx => by simp at hx))
  · subst h1
    cases hv
    exact condK_false (append_copy (te := ty47) hr (gcells_one gs) (by show 0 < 5; omega) (by show gs.length * 40 ≤ _; omega) (by omega) (gcells_len gs) fun v' H' hg => hg.made (e := eGate) (fun K k x hx => gcells_get gs k x hx))
theorem icells_get (xs : List Int) (k : IntKind) (i : Nat) (x : Int) (h : xs[i]? = some x) : ((xs.map (Value.int k)).drop (i * 1)).take 1 = [.int k x] := by
  have hi := (List.getElem?_eq_some_iff.1 h).1
  apply List.ext_getElem?
  intro j
  rw [List.getElem?_take, Nat.mul_one]
  by_cases hj : j < 1
  · have : j = 0 := by omega
    subst this
    rw [if_pos (by omega), List.getElem?_drop, Nat.add_zero, List.getElem?_map, h]
    rfl
  · rw [if_neg hj, List.getElem?_eq_none (by simp; omega)]
theorem clone_ints {H : Heap} {v : Value} {xs : List Int} (h : Own 1 3 H v xs.length (icells xs)) (hn : xs.length ≤ 1000000000) : RCalls Try.prog 55 [v] H (Made (eInt .i64) xs H) := by
  apply call55
  unfold m55
  obtain ⟨b, cap, hv, hc, hr⟩ := h.read
  rcases h with ⟨h1, h2, h3⟩ | ⟨j, cap', h1, h2, h3, h4, h5⟩
  · subst h1
    rw [List.eq_nil_of_length_eq_zero h2]
    exact condK_true ((Grown.nil H 1 3).made (e := eInt .i64) (xs := []) (fun K i x hx => by simp at hx))
  · subst h1
    cases hv
    refine condK_false (append_copy (te := ty3) hr ?_ (by show 0 < 1; omega) (by show xs.length * 8 ≤ _; omega) (by omega) (by simp [icells, ty3]) fun v' H' hg => hg.made (e := eInt .i64) (fun K k x hx => icells_get xs .i64 k x hx))
    intro v hv
    obtain ⟨x, _, rfl⟩ := List.mem_map.1 hv
    rfl
/-- The value c is a circuit. -/
def Circ (H : Heap) (c : Value) (p : Int) (gs : List Gate) (os : List Int) : Prop := ∃ gv ov, c = .agg #[.int .u64 p, gv, ov] ∧ Sl eGate H gv gs ∧ Sl (eInt .i64) H ov os
theorem Circ.mono {H H' : Heap} {c : Value} {p : Int} {gs : List Gate} {os : List Int} (h : Circ H c p gs os) (hl : Le H H') : Circ H' c p gs os := by
  obtain ⟨gv, ov, rfl, h1, h2⟩ := h
  exact ⟨gv, ov, rfl, h1.mono hl, h2.mono hl⟩
theorem circuit_spec {G H : Heap} {b : Value} {p : Int} {gs : List Gate} {os : List Int} (h : Bd G H b p gs os) (hn : gs.length ≤ 1000000000) (ho : os.length ≤ 1000000000) :
    RCalls Try.prog 23 [b] H (Ret fun c H' => ∃ G', Le G G' ∧ Bd G' H' b p gs os ∧ Circ G' c p gs os) := by
  apply call23
  unfold m23
  show oNew [.int .u64 0, .slice none 0 0, .slice none 0 0] 3 40 H _
  intro i hi
  have h0 := h
  obtain ⟨jb, rfl⟩ := h.ptr
  replace h := h.fresh hi (.cells [.int .u64 0, .slice none 0 0, .slice none 0 0] 3 40 true)
  generalize hG1 : hins G i (.cells [.int .u64 0, .slice none 0 0, .slice none 0 0] 3 40 true) = G1 at h
  have hG1i : G1 i = some (.cells [.int .u64 0, .slice none 0 0, .slice none 0 0] 3 40 true) := by rw [← hG1, hins_self]
  have hle1 : Le G G1 := by rw [← hG1]; exact Le.ins _ (none_le h0.le hi)
  generalize hins H i (.cells [.int .u64 0, .slice none 0 0, .slice none 0 0] 3 40 true) = H1 at h ⊢
  obtain ⟨_, jb', gv, ov, e, hb, hG, ho1, hog, hp1, hpg⟩ := h
  cases e
  have hB : Bd G1 H1 (ptrTo jb) p gs os := ⟨by assumption, jb, gv, ov, rfl, hb, hG, ho1, hog, hp1, hpg⟩
  have ld : ∀ K, Le H1 K → vLoad ty22 (.pointer (some ⟨jb, 0, none⟩)) K = some (.int .u64 p) ∧ vLoad ty37 (.pointer (some ⟨jb, 1, none⟩)) K = some gv ∧ vLoad ty38 (.pointer (some ⟨jb, 2, none⟩)) K = some ov := by
    intro K hK
    have hb' := hK _ _ hb
    simp only [vLoad, hb']
    exact ⟨rfl, rfl, rfl⟩
  have l1 := ld H1 (Le.refl _)
  simp only [vNil_to, oV_some, vField_to, l1.1, l1.2.1, l1.2.2]
  refine oRC_ret (clone_gates ho1 hn) fun cg H2 hv => ?_
  obtain ⟨N, hN, hcg⟩ := hv
  have l2 := ld H2 hN.1
  refine ⟨l2.2.2, l2.1, ?_⟩
  have hp2 : Own 1 3 H2 ov os.length (icells os) := hp1.mono fun j hj => by
    obtain ⟨_, _, h1⟩ := hp1.at_ hj
    rw [h1, hN.1 _ _ h1]
  refine oRC_ret (clone_ints hp2 ho) fun co H3 hv => ?_
  obtain ⟨M, hM, hco⟩ := hv
  refine ⟨(ld H3 (hN.1.trans hM.1)).1, ?_⟩
  have hB3 := (hB.news hN).news hM
  have e1 : vBuild ty40 [((0, 1), .int .u64 p), ((1, 1), cg), ((2, 1), co)] = some (.agg #[.int .u64 p, cg, co]) := by
    obtain ⟨_, _, _, rfl, _⟩ := hcg
    obtain ⟨_, _, _, rfl, _⟩ := hco
    rfl
  rw [e1, oV_some]
  have hG3i : hun (hun G1 N) M i = some (.cells [.int .u64 0, .slice none 0 0, .slice none 0 0] 3 40 true) := hun_left _ _ _ _ (hun_left _ _ _ _ hG1i)
  have hH3i := hB3.le _ _ hG3i
  have e2 : vStore ty40 (ptrTo i) (.agg #[.int .u64 p, cg, co]) H3 = some (hins H3 i (.cells [.int .u64 p, cg, co] 3 40 true)) := by
    obtain ⟨_, _, _, rfl, _⟩ := hcg
    obtain ⟨_, _, _, rfl, _⟩ := hco
    simp only [vStore, ptrTo, hH3i]
    rfl
  rw [e2, oHeap_some]
  have e3 : vLoad ty40 (ptrTo i) (hins H3 i (.cells [.int .u64 p, cg, co] 3 40 true)) = some (.agg #[.int .u64 p, cg, co]) := by
    simp only [vLoad, ptrTo, hins_self]
    rfl
  rw [e3]
  have hGi : G i = none := none_le h0.le hi
  have hNG : ∀ k, N k ≠ none → G1 k = none := fun k hk => none_le hB.le (hN.2.2 k hk)
  have hMG : ∀ k, M k ≠ none → hun G1 N k = none := fun k hk => none_le (hB.news hN).le (hM.2.2 k hk)
  have hni : ∀ k c, G k = some c → k ≠ i := fun k c hk e => by subst e; rw [hGi] at hk; cases hk
  refine ⟨hins (hun (hun G1 N) M) i (.cells [.int .u64 p, cg, co] 3 40 true), ?_, hB3.put (by rw [hG3i]; simp) _, cg, co, rfl, ?_, ?_⟩
  · intro k c hk
    rw [hins_other _ _ (hni k c hk)]
    exact hun_left _ _ _ _ (hun_left _ _ _ _ (hle1 k c hk))
  · refine hcg.mono fun k c hk => ?_
    have hki : k ≠ i := by
      rintro rfl
      have := hNG k (by rw [hk]; simp)
      rw [hG1i] at this
      cases this
    rw [hins_other _ _ hki]
    exact hun_left _ _ _ _ (hun_right hNG _ _ hk)
  · refine hco.mono fun k c hk => ?_
    have hki : k ≠ i := by
      rintro rfl
      have := hMG k (by rw [hk]; simp)
      rw [hun_left _ _ _ _ hG1i] at this
      cases this
    rw [hins_other _ _ hki]
    exact hun_right hMG _ _ hk
end Go.Proofs.Ytpbaoefjkfdgmaa.SL
