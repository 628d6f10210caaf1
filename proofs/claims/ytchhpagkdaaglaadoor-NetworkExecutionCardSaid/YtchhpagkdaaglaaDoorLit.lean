/- Literals; parts of slices; copy; what a local struct holds. -/
import Derived.Test.YtchhpagkdaaglaaDoorAdvO
set_option linter.unusedVariables false
set_option linter.unusedSimpArgs false
namespace Go.Proofs.YtchhpagkdaaglaaDoor.SL
open Go

/-! ### Heaps beside a local variable -/
theorem Le.put {R H : Heap} {i : Nat} {c : Blk} (h : Le R H) (hi : R i = none) : Le R (hins H i c) := fun j d hj => by
  rw [hins_other _ _ (fun e => by subst e; rw [hi] at hj; cases hj)]
  exact h j d hj
theorem New.le {R H H' N : Heap} (h : New H H' N) (hl : Le R H) : Le (hun R N) H' := hun_le (hl.trans h.1) h.2.1
theorem New.not {R H H' N : Heap} (h : New H H' N) {i : Nat} (hi : R i = none) (hk : H i ≠ none) : hun R N i = none := hun_none.2 ⟨hi, by
  cases he : N i with
  | none => rfl
  | some c => exact absurd (h.2.2 i (by rw [he]; simp)) hk⟩
theorem New.kn {H H' N : Heap} (h : New H H' N) {i : Nat} (hk : H i ≠ none) : H' i ≠ none := by
  cases he : H i with
  | none => exact absurd he hk
  | some c => rw [h.1 i c he]; simp
theorem New.right {R H H' N : Heap} (h : New H H' N) (hl : Le R H) : Le N (hun R N) := hun_right fun k hk => none_le hl (h.2.2 k hk)
theorem New.one {H : Heap} {i : Nat} {c : Blk} (hi : H i = none) : New H (hins H i c) (hone i c) := ⟨Le.ins _ hi, hone_le (hins_self _ _ _), fun k hk => by
  by_cases e : k = i
  · subst e; exact hi
  · simp [hone, e] at hk⟩
theorem Grown.made1 {H0 H : Heap} {t : TypeId} {v : Value} {n : Nat} {cs : List Value} (h : Grown H0 H 1 t v n cs) : ∃ N, New H0 H N ∧ Own 1 t N v n cs := by
  obtain ⟨hle, ho, hn⟩ := h
  rcases ho with ⟨rfl, h2, rfl⟩ | ⟨j, cap, rfl, h1, h2, h3, h4⟩
  · subst h2
    exact ⟨fun _ => none, ⟨hle, (fun i c h => nomatch h), fun i h => absurd rfl h⟩, Own.nil _ _ _⟩
  · refine ⟨hone j (.cells cs (cap * 1) t true), ⟨hle, hone_le h3, fun i hi => ?_⟩, .inr ⟨j, cap, rfl, h1, h2, by simp [hone], h4⟩⟩
    have : i = j := by
      unfold hone at hi
      split at hi
      · assumption
      · exact absurd rfl hi
    subst this
    exact hn i rfl
/-! ### Literals -/
section
variable {R H : Heap} {k : Value → Heap → Prop}
theorem hone_ints {kd : IntKind} {i : Nat} {t : TypeId} {n : Nat} (xs : List Int) (h : xs.length ≤ 1000000) : Sl (eInt kd) (hone i (.cells (xs.map (.int kd)) n t true)) (.slice (some ⟨i, 0, none⟩) xs.length xs.length) xs := by
  have e : hone i (.cells (xs.map (.int kd)) n t true) = hins (fun _ => none) i (.cells (xs.map (.int kd)) n t true) := rfl
  rw [e]
  refine ⟨some ⟨i, 0, none⟩, xs.length, xs.map (.int kd), rfl, Nat.le_refl _, by omega, rdSlice_ins (by show _ = xs.length * 1; simp), fun j x hx => ?_⟩
  exact one_get _ j (.int kd x) (by rw [List.getElem?_map, hx]; rfl)
theorem lit1 (a : Int) (hk : ∀ v H' N, New H H' N → Sl (eInt .u64) N v [a] → k v H') : oBuildS ty22 22 1 [((0, 1), .int .u64 a)] H k := by
  show oNew (([a] : List Int).map (.int .u64)) 1 22 H _
  intro i hi
  exact hk _ _ _ (New.one hi) (hone_ints [a] (by simp))
theorem lit2 (a b : Int) (hk : ∀ v H' N, New H H' N → Sl (eInt .u64) N v [a, b] → k v H') : oBuildS ty22 22 2 [((0, 1), .int .u64 a), ((1, 1), .int .u64 b)] H k := by
  show oNew (([a, b] : List Int).map (.int .u64)) 2 22 H _
  intro i hi
  exact hk _ _ _ (New.one hi) (hone_ints [a, b] (by simp))
theorem lit3 (a b c : Int) (hk : ∀ v H' N, New H H' N → Sl (eInt .u64) N v [a, b, c] → k v H') : oBuildS ty22 22 3 [((0, 1), .int .u64 a), ((1, 1), .int .u64 b), ((2, 1), .int .u64 c)] H k := by
  show oNew (([a, b, c] : List Int).map (.int .u64)) 3 22 H _
  intro i hi
  exact hk _ _ _ (New.one hi) (hone_ints [a, b, c] (by simp))
theorem lit4r {u1 u2 u3 u4 : Value} {r1 r2 r3 r4 : List Int} (hl : Le R H) (h1 : Sl (eInt .u64) R u1 r1) (h2 : Sl (eInt .u64) R u2 r2) (h3 : Sl (eInt .u64) R u3 r3) (h4 : Sl (eInt .u64) R u4 r4) (hk : ∀ v H' N, New H H' N → Sl (eSlice (eInt .u64)) (hun R N) v [r1, r2, r3, r4] → k v H') :
    oBuildS ty52 52 4 [((0, 1), u1), ((1, 1), u2), ((2, 1), u3), ((3, 1), u4)] H k := by
  obtain ⟨b1, c1, _, rfl, _⟩ := id h1
  obtain ⟨b2, c2, _, rfl, _⟩ := id h2
  obtain ⟨b3, c3, _, rfl, _⟩ := id h3
  obtain ⟨b4, c4, _, rfl, _⟩ := id h4
  show oNew [.slice b1 r1.length c1, .slice b2 r2.length c2, .slice b3 r3.length c3, .slice b4 r4.length c4] 4 52 H _
  intro i hi
  have hN := New.one (c := .cells [.slice b1 r1.length c1, .slice b2 r2.length c2, .slice b3 r3.length c3, .slice b4 r4.length c4] 4 52 true) hi
  refine hk _ _ _ hN ?_
  have hRi := none_le hl hi
  refine ⟨some ⟨i, 0, none⟩, 4, _, rfl, Nat.le_refl _, by simp, rdSlice_mono (hN.right hl) (rdSlice_ins (H := fun _ => none) (m := 4) rfl), fun j x hx => ?_⟩
  have one : ∀ (u : Value) (r : List Int), Sl (eInt .u64) R u r → ([.slice b1 r1.length c1, .slice b2 r2.length c2, .slice b3 r3.length c3, .slice b4 r4.length c4] : List Value)[j]? = some u → (eSlice (eInt .u64)).rel (hun R (hone i (.cells [.slice b1 r1.length c1, .slice b2 r2.length c2, .slice b3 r3.length c3, .slice b4 r4.length c4] 4 52 true))) r ((([.slice b1 r1.length c1, .slice b2 r2.length c2, .slice b3 r3.length c3, .slice b4 r4.length c4] : List Value).drop (j * 1)).take 1) := fun u r hu he => ⟨u, one_get _ j u he, hu.mono (hun_left _ _)⟩
  match j, hx with
  | 0, hx => cases hx; exact one _ _ h1 rfl
  | 1, hx => cases hx; exact one _ _ h2 rfl
  | 2, hx => cases hx; exact one _ _ h3 rfl
  | 3, hx => cases hx; exact one _ _ h4 rfl
end
/-! ### Parts of slices -/
theorem rd_sub {sz n l m i off : Nat} {H : Heap} {cs : List Value} (h : rdSlice sz H (some ⟨i, off, none⟩) n = some cs) (hlm : l + m ≤ n) : rdSlice sz H (some ⟨i, off + l * sz, none⟩) m = some ((cs.drop (l * sz)).take (m * sz)) := by
  by_cases hm : m = 0
  · subst hm
    simp [rdSlice]
  have hn : n ≠ 0 := by omega
  simp only [rdSlice, if_neg hn, if_neg hm] at h ⊢
  unfold rdCells at h ⊢
  split at h
  · rename_i bs n' e wr hi
    split at h
    · rename_i hb
      cases h
      have h1 : (l + m) * sz ≤ n * sz := Nat.mul_le_mul_right _ hlm
      rw [Nat.add_mul] at h1
      rw [if_pos (by omega), List.drop_take, List.drop_drop, List.take_take]
      congr 2
      omega
    · cases h
  · cases h
theorem splice_zero (cs vs : List Value) : splice cs (0 + 0) vs = vs ++ cs.drop vs.length := by simp [splice]
/-- copy into a slice of one's own. -/
theorem oCopy_own {H0 H : Heap} {w v : Value} {xs zs : List Int} {n : Nat} {k : Value → Heap → Prop} (hg : Grown H0 H 1 22 w n (zs.map (.int .u64))) (hz : zs.length = n) (hv : Sl (eInt .u64) H v xs)
    (hk : ∀ H', Grown H0 H' 1 22 w n ((xs.take n ++ zs.drop xs.length).map (.int .u64)) → k (.int .i64 ((min xs.length n : Nat) : Int)) H') : oCopy ty22 w v H k := by
  obtain ⟨b, cap, rfl, c1, c2, c3⟩ := hv.ints
  obtain ⟨hle, ho, hn⟩ := hg
  have triv : min xs.length n = 0 → zs = xs.take n ++ zs.drop xs.length := fun hm => by
    by_cases e : xs = []
    · subst e; simp
    · have hp : 0 < xs.length := List.length_pos_iff.2 e
      have h0 : n = 0 := by omega
      subst h0
      rw [List.eq_nil_of_length_eq_zero hz]
      simp
  rcases ho with ⟨rfl, rfl, e⟩ | ⟨j, dc, rfl, h1, h2, h3, h4⟩
  · refine ⟨[], by simp [rdSlice], by simp, ?_⟩
    simp only [oRoom, if_true]
    refine hk H ⟨hle, ?_, hn⟩
    rw [← triv (by omega), e]
    exact Own.nil _ _ _
  · by_cases hm : min xs.length n = 0
    · refine ⟨[], by rw [hm]; simp [rdSlice], by simp, ?_⟩
      simp only [oRoom, if_true]
      refine hk H ⟨hle, ?_, hn⟩
      rw [← triv hm]
      exact .inr ⟨j, dc, rfl, h1, h2, h3, h4⟩
    · have hx : xs.length ≠ 0 := by omega
      cases b with
      | none => simp only [rdSlice, if_neg hx] at c3; cases c3
      | some a =>
        obtain ⟨i, off, sp⟩ := a
        cases sp with
        | some _ => simp only [rdSlice, if_neg hx] at c3; cases c3
        | none =>
          have hr := rd_sub (l := 0) (m := min xs.length n) c3 (by omega)
          simp only [Nat.zero_mul, Nat.add_zero, List.drop_zero, Nat.mul_one] at hr
          refine ⟨_, hr, fun v hv => ?_, ?_⟩
          · obtain ⟨x, _, rfl⟩ := List.mem_map.1 (List.mem_of_mem_take hv)
            rfl
          · have hne : (xs.map (Value.int .u64)).take (min xs.length n) ≠ [] := fun e => by
              have := congrArg List.length e
              simp only [List.length_take, List.length_map, List.length_nil] at this
              omega
            simp only [oRoom, if_neg hne, h3]
            have hlen : ((xs.map (Value.int .u64)).take (min xs.length n)).length = min xs.length n := by simp
            refine ⟨by omega, by rw [hlen]; omega, ?_⟩
            have e : splice (zs.map (Value.int .u64)) (0 + 0) ((xs.map (Value.int .u64)).take (min xs.length n)) = (xs.take n ++ zs.drop xs.length).map (.int .u64) := by
              rw [splice_zero, hlen, List.map_append, List.map_take, List.map_drop]
              by_cases hc : xs.length ≤ n
              · rw [Nat.min_eq_left hc, List.take_of_length_le (by simp), List.take_of_length_le (by simpa using hc)]
              · rw [Nat.min_eq_right (by omega), List.drop_of_length_le (by simp; omega), List.drop_of_length_le (by simp; omega)]
            rw [e]
            refine hk _ ⟨?_, .inr ⟨j, dc, rfl, h1, h2, hins_self _ _ _, ?_⟩, hn⟩
            · exact hle.put (hn j rfl)
            · simp only [List.length_map, List.length_append, List.length_take, List.length_drop]
              omega
def rsz (xs : List Int) (n : Nat) : List Int := xs.take n ++ List.replicate (n - xs.length) 0
theorem rsz_len (xs : List Int) (n : Nat) : (rsz xs n).length = n := by simp [rsz]; omega
theorem rsz_rng {p : Int} {xs : List Int} (h : rng p xs) (hp : 0 < p) (n : Nat) : rng p (rsz xs n) := fun x hx => by
  rcases List.mem_append.1 hx with hx | hx
  · exact h x (List.mem_of_mem_take hx)
  · rw [(List.mem_replicate.1 hx).2]; omega
theorem resize_spec {H : Heap} {v : Value} {xs : List Int} {n : Nat} (hv : Sl (eInt .u64) H v xs) (hn : n ≤ 1000000) : RCalls Tryd.prog 49 [v, .int .i64 n] H (Ret fun w H' => Grown H H' 1 22 w n ((rsz xs n).map (.int .u64))) := by
  apply call49
  unfold m49
  refine oMake_own (te := ty22) rfl (by show 8 * n ≤ _; omega) (by omega) fun w H2 hg => ?_
  rw [zerosL_one rfl] at hg
  have e : List.replicate n (ty22).zero = (List.replicate n (0 : Int)).map (.int .u64) := by rw [List.map_replicate]; rfl
  rw [e] at hg
  refine oCopy_own hg (by simp) (hv.mono hg.1) fun H' hg' => ?_
  rw [List.drop_replicate] at hg'
  exact hg'
theorem vBound_nat {y x : Nat} {k : IntKind} (hx : x ≤ y) : vBound y (.int k (x : Int)) = some x := by simp [vBound, hx]
theorem Sl.addr {α : Type} {e : El α} {H : Heap} {v : Value} {xs : List α} (h : Sl e H v xs) (h0 : 0 < xs.length) : ∃ i off cap cs, v = .slice (some ⟨i, off, none⟩) xs.length cap ∧ xs.length ≤ cap ∧ xs.length ≤ 9223372036854775807 ∧ rdSlice e.sz H (some ⟨i, off, none⟩) xs.length = some cs ∧
    ∀ i x, xs[i]? = some x → e.rel H x ((cs.drop (i * e.sz)).take e.sz) := by
  obtain ⟨bb, cap, cs, rfl, h2, h3, h4, h5⟩ := h
  have hx : xs.length ≠ 0 := by omega
  cases bb with
  | none => simp only [rdSlice, if_neg hx] at h4; cases h4
  | some ad =>
    obtain ⟨i, off, sp⟩ := ad
    cases sp with
    | some _ => simp only [rdSlice, if_neg hx] at h4; cases h4
    | none => exact ⟨i, off, cap, cs, rfl, h2, h3, h4, h5⟩
theorem Sl.sub {α : Type} {e : El α} {H : Heap} {xs : List α} {i off cap : Nat} {cs : List Value} {a b : Nat} (hab : a ≤ b) (hb : b ≤ xs.length) (h2 : xs.length ≤ cap) (h3 : xs.length ≤ 9223372036854775807) (h4 : rdSlice e.sz H (some ⟨i, off, none⟩) xs.length = some cs) (h5 : ∀ i x, xs[i]? = some x → e.rel H x ((cs.drop (i * e.sz)).take e.sz)) :
    Sl e H (.slice (some ⟨i, if cap = a then off else off + a * e.sz, none⟩) (b - a) (cap - a)) ((xs.drop a).take (b - a)) := by
  have hlen : ((xs.drop a).take (b - a)).length = b - a := by simp; omega
  refine ⟨some ⟨i, if cap = a then off else off + a * e.sz, none⟩, cap - a, (cs.drop (a * e.sz)).take ((b - a) * e.sz), by rw [hlen], by omega, by omega, ?_, fun j x hx => ?_⟩
  · rw [hlen]
    by_cases hc : cap = a
    · have : b - a = 0 := by omega
      rw [this]
      simp [rdSlice]
    · rw [if_neg hc]
      exact rd_sub h4 (by omega)
  · rw [List.getElem?_take] at hx
    split at hx
    · rename_i hj
      rw [List.getElem?_drop] at hx
      have := h5 _ x hx
      have hje : (j + 1) * e.sz ≤ (b - a) * e.sz := Nat.mul_le_mul_right _ hj
      rw [Nat.succ_mul] at hje
      rw [List.drop_take, List.drop_drop, List.take_take, Nat.min_eq_left (by omega), ← Nat.add_mul]
      exact this
    · cases hx
/-- A part l[a:b]. -/
theorem Sl.part {α : Type} {e : El α} {H : Heap} {v : Value} {xs : List α} (h : Sl e H v xs) (h0 : 0 < xs.length) {a b : Nat} {k1 k2 : IntKind} (hab : a ≤ b) (hb : b ≤ xs.length) : ∃ w, vSlice e.sz v (some (.int k1 a)) (some (.int k2 b)) none = some w ∧ Sl e H w ((xs.drop a).take (b - a)) := by
  obtain ⟨i, off, cap, cs, rfl, h2, h3, h4, h5⟩ := h.addr h0
  exact ⟨_, by simp only [vSlice, Option.bind_some, vBound_nat (show b ≤ cap by omega), vBound_nat hab], Sl.sub hab hb h2 h3 h4 h5⟩
theorem Sl.from {α : Type} {e : El α} {H : Heap} {v : Value} {xs : List α} (h : Sl e H v xs) (h0 : 0 < xs.length) {a : Nat} {k1 : IntKind} (ha : a ≤ xs.length) : ∃ w, vSlice e.sz v (some (.int k1 a)) none none = some w ∧ Sl e H w (xs.drop a) := by
  obtain ⟨i, off, cap, cs, rfl, h2, h3, h4, h5⟩ := h.addr h0
  have := Sl.sub ha (Nat.le_refl _) h2 h3 h4 h5
  rw [List.take_of_length_le (by simp)] at this
  exact ⟨_, by simp only [vSlice, Option.bind_some, vBound_nat ha, Option.isSome_none, Bool.false_eq_true, if_false], this⟩
theorem Sl.upto {α : Type} {e : El α} {H : Heap} {v : Value} {xs : List α} (h : Sl e H v xs) (h0 : 0 < xs.length) {b : Nat} {k2 : IntKind} (hb : b ≤ xs.length) : ∃ w, vSlice e.sz v none (some (.int k2 b)) none = some w ∧ Sl e H w (xs.take b) := by
  obtain ⟨i, off, cap, cs, rfl, h2, h3, h4, h5⟩ := h.addr h0
  have := Sl.sub (Nat.zero_le b) hb h2 h3 h4 h5
  rw [List.drop_zero, Nat.sub_zero] at this
  exact ⟨_, by simp only [vSlice, Option.bind_some, vBound_nat (show b ≤ cap by omega)]; rfl, by simpa using this⟩
end Go.Proofs.YtchhpagkdaaglaaDoor.SL
