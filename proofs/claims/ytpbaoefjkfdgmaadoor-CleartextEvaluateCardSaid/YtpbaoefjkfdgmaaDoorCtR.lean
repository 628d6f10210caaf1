/- Slices of one's own beside each other and beside other blocks; the field's operations. -/
import Derived.Test.YtpbaoefjkfdgmaaDoorCtB
import Derived.Laws.MathBits
set_option linter.unusedVariables false
set_option linter.unusedSimpArgs false
namespace Go.Proofs.YtpbaoefjkfdgmaaDoor.SL
open Go

theorem rdSlice_len {sz n : Nat} {H : Heap} {b : Option Addr} {cs : List Value} (h : rdSlice sz H b n = some cs) : cs.length = n * sz := by
  unfold rdSlice at h
  by_cases hn : n = 0
  · subst hn
    simp at h
    subst h
    simp
  · rw [if_neg hn] at h
    cases b with
    | none => cases h
    | some a =>
      obtain ⟨i, off, sp⟩ := a
      cases sp with
      | some _ => cases h
      | none =>
        simp only [rdCells] at h
        cases hc : H i with
        | none => rw [hc] at h; cases h
        | some c =>
          rw [hc] at h
          cases c with
          | cells ds a e w =>
            simp only at h
            by_cases hle : off + n * sz ≤ ds.length
            · rw [if_pos hle] at h
              cases h
              rw [List.length_take, List.length_drop]
              omega
            · rw [if_neg hle] at h
              cases h
          | _ => cases h
theorem Sl.one {α : Type} {e : El α} {H : Heap} {v : Value} {xs : List α} (h : Sl e H v xs) : v.oneCell' = true := by
  obtain ⟨b, cap, cs, rfl, _⟩ := h
  rfl
theorem Sl.tail {H : Heap} {k : IntKind} {v : Value} {x : Int} {xs : List Int} (h : Sl (eInt k) H v (x :: xs)) : ∃ u, vSlice 1 v (some (.int .i64 1)) none none = some u ∧ Sl (eInt k) H u xs := by
  obtain ⟨b, cap, cs, rfl, h2, h3, h4, h5⟩ := h
  have hl := rdSlice_len h4
  rw [List.length_cons] at h2 h3 hl
  have hn : ¬ (x :: xs).length = 0 := by simp
  unfold rdSlice at h4
  rw [if_neg hn] at h4
  cases b with
  | none => cases h4
  | some a =>
    obtain ⟨i, off, sp⟩ := a
    cases sp with
    | some _ => cases h4
    | none =>
      have hs : (if cap = 1 then off else off + 1 * 1 : Nat) = off + 1 ∨ xs.length = 0 := by
        by_cases c : cap = 1
        · exact .inr (by omega)
        · rw [if_neg c]; exact .inl rfl
      refine ⟨.slice (some ⟨i, if cap = 1 then off else off + 1 * 1, none⟩) xs.length (cap - 1), ?_, some ⟨i, if cap = 1 then off else off + 1 * 1, none⟩, cap - 1, cs.drop 1, rfl, by omega, by omega, ?_, fun j y hy => ?_⟩
      · have e : vBound (xs.length + 1) (.int .i64 1) = some 1 := by
          simp only [vBound]
          rw [if_pos (by omega)]
          rfl
        simp only [vSlice, List.length_cons, Option.bind_some, Nat.add_sub_cancel, Option.isSome, Bool.false_eq_true, if_false, e]
      · unfold rdSlice
        split
        · rename_i h0
          rw [List.drop_eq_nil_of_le (by rw [hl]; show (xs.length + 1) * 1 ≤ 1; omega)]
        · rename_i h0
          have hs' := hs.resolve_right h0
          rw [hs']
          simp only [rdCells] at h4 ⊢
          cases hc : H i with
          | none => rw [hc] at h4; cases h4
          | some c =>
            rw [hc] at h4
            cases c with
            | cells ds a e w =>
              simp only at h4 ⊢
              rw [List.length_cons] at h4
              have hsz : (eInt k).sz = 1 := rfl
              rw [hsz] at h4 ⊢
              by_cases hle : off + (xs.length + 1) * 1 ≤ ds.length
              · rw [if_pos hle] at h4
                cases h4
                rw [if_pos (by omega), List.drop_take, List.drop_drop]
                congr 2
              · rw [if_neg hle] at h4
                cases h4
            | _ => cases h4
      · have := h5 (j + 1) y (by simpa using hy)
        rw [List.drop_drop]
        have hsz : (eInt k).sz = 1 := rfl
        rw [hsz] at this ⊢
        rw [show 1 + j * 1 = (j + 1) * 1 by omega]
        exact this
/-- What is of another type stays. -/
def Stays (G H H' : Heap) (e : TypeId) : Prop := (∀ {sz' e' u m ds}, Grown G H sz' e' u m ds → e' ≠ e → Grown G H' sz' e' u m ds) ∧ ∀ q cs' m e' w, H q = some (.cells cs' m e' w) → e' ≠ e → H' q = some (.cells cs' m e' w)
theorem Grown.appendF {G H : Heap} {n : Nat} {e : TypeId} {v x : Value} {cs : List Value} {te : TI} {k : Value → Heap → Prop} (hg : Grown G H te.size e v n cs) (hz : te.zero.cells.size = te.size) (hv : x.cells.size = te.size) (h1 : ∀ c ∈ x.cells.toList, c.oneCell' = true) (hs : 0 < te.size)
    (hb : (n + 1) * te.bytes ≤ 140737488355328) (hm : n + 1 ≤ 9223372036854775807) (hk : ∀ v' H', Grown G H' te.size e v' (n + 1) (cs ++ x.cells.toList) → Stays G H H' e → k v' H') :
    oBuildS te e 1 [((0, te.size), x)] H fun s H1 => oAppend te e v s H1 k := by
  obtain ⟨hle, ho, hn⟩ := hg
  refine append_own ho hz hv h1 hs hb hm fun s j cap hs' hjs hj hc hc2 => ?_
  have hj0 : G j = none := by
    rcases hj with hj | hj
    · exact hn j hj
    · exact none_le hle hj
  have hl : Le G (hins (hins H s (.cells x.cells.toList te.size e true)) j (.cells (cs ++ x.cells.toList) (cap * te.size) e true)) := by
    intro i c hi
    have hij : i ≠ j := by rintro rfl; rw [hj0] at hi; cases hi
    rw [hins_other _ _ hij]
    exact hins_get hs' (hle i c hi)
  have fr : ∀ q cs' m e' w, H q = some (.cells cs' m e' w) → e' ≠ e → hins (hins H s (.cells x.cells.toList te.size e true)) j (.cells (cs ++ x.cells.toList) (cap * te.size) e true) q = some (.cells cs' m e' w) := by
    intro q cs' m e' w hq hne
    have hij : q ≠ j := by
      rintro rfl
      rcases hj with hj | hj
      · obtain ⟨_, _, h3⟩ := ho.at_ hj
        rw [hq] at h3
        cases h3
        exact hne rfl
      · rw [hj] at hq; cases hq
    rw [hins_other _ _ hij, hins_get hs' hq]
  refine hk _ _ ⟨hl, .inr ⟨j, cap, rfl, hc, hc2, hins_self _ _ _, ?_⟩, fun i hi => by cases hi; exact hj0⟩ ⟨fun {sz' e' u m ds} hu hne => ⟨hl, hu.2.1.mono fun i hi => ?_, hu.2.2⟩, fr⟩
  · have h2 : x.cells.toList.length = te.size := by simpa using hv
    rw [List.length_append, ho.length, h2, Nat.succ_mul]
  · obtain ⟨_, _, h2⟩ := hu.2.1.at_ hi
    rw [fr _ _ _ _ _ h2 hne, h2]
/-- A slice of one's own, of messages that R knows. -/
def Rw (R H : Heap) (v : Value) (rows : List (List Int)) : Prop := ∃ us, us.length = rows.length ∧ Grown R H 1 30 v rows.length us ∧ ∀ (j : Nat) u r, us[j]? = some u → rows[j]? = some r → Sl (eInt .u64) R u r
section
variable {R H : Heap} {v : Value} {rows : List (List Int)}
theorem Rw.le (h : Rw R H v rows) : Le R H := by
  obtain ⟨us, h1, h2, h3⟩ := h
  exact h2.1
theorem Rw.grow {K : Heap} (h : Rw R H v rows) (hl : Le H K) : Rw R K v rows := by
  obtain ⟨us, h1, h2, h3⟩ := h
  exact ⟨us, h1, h2.le hl, h3⟩
theorem Rw.news {H' N : Heap} (h : Rw R H v rows) (hN : New H H' N) : Rw (hun R N) H' v rows := by
  obtain ⟨us, h1, h2, h3⟩ := h
  exact ⟨us, h1, h2.news hN, fun j u r hu hr => (h3 j u r hu hr).mono (hun_left _ _)⟩
theorem Rw.fresh {i : Nat} (h : Rw R H v rows) (hi : H i = none) (c : Blk) : Rw (hins R i c) (hins H i c) v rows := by
  obtain ⟨us, h1, h2, h3⟩ := h
  exact ⟨us, h1, h2.fresh hi c, fun j u r hu hr => (h3 j u r hu hr).mono (Le.ins _ (none_le h2.1 hi))⟩
theorem Rw.len (h : Rw R H v rows) : vLen v = some (.int .i64 rows.length) := by
  obtain ⟨us, h1, h2, h3⟩ := h
  exact h2.2.1.len
theorem Rw.sl (h : Rw R H v rows) : Sl (eSlice (eInt .u64)) H v rows := by
  obtain ⟨us, h1, h2, h3⟩ := h
  refine rows_sl h2.2.1 fun j hj => ?_
  have hj' : j < us.length := by omega
  exact ⟨us[j], List.getElem?_eq_getElem hj', (h3 j _ _ (List.getElem?_eq_getElem hj') (List.getElem?_eq_getElem hj)).mono h2.1⟩
theorem Rw.get (h : Rw R H v rows) {j : Nat} (hj : j < rows.length) : ∃ pt u, vIdxS 1 v (.int .i64 j) = some pt ∧ vLoad ty30 pt H = some u ∧ Sl (eInt .u64) R u (rows.getD j []) := by
  obtain ⟨us, h1, h2, h3⟩ := h
  obtain ⟨pt, x, g1, g2, g3, g4⟩ := h2.ix .i64 hj
  refine ⟨pt, x, g1, g3 ty30 rfl, ?_⟩
  have : rows.getD j [] = rows[j] := by simp [hj]
  rw [this]
  exact h3 j x rows[j] g2 (List.getElem?_eq_getElem hj)
theorem Rw.put (h : Rw R H v rows) {j : Nat} (hj : j < rows.length) {u : Value} {r : List Int} (hu : Sl (eInt .u64) R u r) : ∃ pt H', vIdxS 1 v (.int .i64 j) = some pt ∧ vStore ty30 pt u H = some H' ∧ Rw R H' v (rows.set j r) ∧ Stays R H H' 30 := by
  obtain ⟨us, h1, h2, h3⟩ := h
  obtain ⟨pt, x, g1, g2, g3, g4⟩ := h2.ix .i64 hj
  obtain ⟨H', s1, s2, s3, s4⟩ := g4 ty30 u rfl rfl hu.one
  refine ⟨pt, H', g1, s1, ⟨us.set j u, by simpa using h1, by rw [List.length_set]; exact s2, fun i w z hw hz => ?_⟩, s3, s4⟩
  by_cases c : j = i
  · subst c
    rw [List.getElem?_set_self (by omega)] at hw hz
    cases hw
    cases hz
    exact hu
  · rw [List.getElem?_set_ne c] at hw hz
    exact h3 i w z hw hz
theorem Rw.nil (H : Heap) : Rw H H (.slice none 0 0) [] := ⟨[], rfl, Grown.nil _ _ _, fun j u r h => by simp at h⟩
theorem Rw.app {u : Value} {r : List Int} {k : Value → Heap → Prop} (h : Rw R H v rows) (hu : Sl (eInt .u64) R u r) (hl : rows.length < 1000000) (hk : ∀ v' H', Rw R H' v' (rows ++ [r]) → Stays R H H' 30 → k v' H') :
    oBuildS ty30 30 1 [((0, 1), u)] H fun s H1 => oAppend ty30 30 v s H1 k := by
  obtain ⟨us, h1, h2, h3⟩ := h
  have hu1 : u.cells.toList = [u] := by obtain ⟨_, _, _, rfl, _⟩ := hu; rfl
  have hu2 : u.cells.size = 1 := by obtain ⟨_, _, _, rfl, _⟩ := hu; rfl
  refine Grown.appendF (te := ty30) h2 rfl hu2 (fun c hc => ?_) (by show 0 < 1; omega) (by show (rows.length + 1) * 24 ≤ _; omega) (by omega) fun v' H' hg hs => ?_
  · rw [hu1] at hc
    rw [List.mem_singleton.1 hc]
    exact hu.one
  · rw [hu1] at hg
    refine hk v' H' ⟨us ++ [u], by simp [h1], by rw [List.length_append]; exact hg, fun j w z hw hz => ?_⟩ hs
    by_cases c : j < us.length
    · rw [List.getElem?_append_left (by omega)] at hw hz
      exact h3 j w z hw hz
    · rw [List.getElem?_append_right (by omega)] at hw hz
      by_cases e : j - us.length = 0
      · rw [e] at hw
        rw [show j - rows.length = 0 by omega] at hz
        cases hw
        cases hz
        exact hu
      · rw [List.getElem?_eq_none (by simp; omega)] at hw
        cases hw
end
/-! ### The product -/
theorem mul64_spec (H : Heap) {x y : Int} (hx0 : 0 ≤ x) (hx : x < 18446744073709551616) (hy0 : 0 ≤ y) (hy : y < 18446744073709551616) :
    RCalls Tryd.prog 59 [.int .u64 x, .int .u64 y] H (Val (.tuple #[.int .u64 (x * y / 18446744073709551616), .int .u64 (x * y % 18446744073709551616)]) H) := by
  apply call59
  unfold m59
  have a32 : ∀ z : Int, 0 ≤ z → z ≤ 18446744073709551615 → vInt .and (.int .u64 z) (.int .u64 4294967295) = some (.int .u64 (z % 4294967296)) := fun z h0 h1 => by
    rw [vInt_and]
    have := and_low z 32 (by decide) h0 h1
    have e : ((2 : Int) ^ 32 - 1) = 4294967295 := by decide
    rw [e] at this
    show some (Value.int .u64 (IntKind.u64.wrap ((BitVec.ofInt 64 z &&& BitVec.ofInt 64 4294967295).toNat : Int))) = _
    rw [this, show ((2 : Int) ^ 32) = 4294967296 by decide, wrap_u64 (by omega) (by omega)]
  have s32 : ∀ z : Int, vInt .shr (.int .u64 z) (.int .u64 32) = some (.int .u64 (z / 4294967296)) := fun z => by
    rw [vInt_shr, if_neg (by decide), show ((2 : Int) ^ (min (32 : Int).toNat IntKind.u64.bits)) = 4294967296 from by decide, Int.fdiv_eq_ediv_of_nonneg _ (by omega)]
  have key := mul64_arith x y hx0 hx hy0 hy
  simp only [↓oV_of (a32 x hx0 (by omega)), ↓oV_of (a32 y hy0 (by omega)), ↓oV_of (s32 x), ↓oV_of (s32 y), ↓hs_mul, ↓hs_add, wrap_u64_mod, ↓oV_of (s32 _), ↓oV_of (a32 ((x / 4294967296 * (y % 4294967296) % 18446744073709551616 + x % 4294967296 * (y % 4294967296) % 18446744073709551616 / 4294967296) % 18446744073709551616) (by omega) (by omega))]
  refine ⟨?_, rfl⟩
  rw [← key]
theorem fmul_spec (H : Heap) {p a b : Int} (hp : Supp p) (ha : 0 ≤ a) (ha1 : a < 18446744073709551616) (hb : 0 ≤ b) (hb1 : b < 18446744073709551616) : RCalls Tryd.prog 55 [.int .u64 p, .int .u64 a, .int .u64 b] H (Val (.int .u64 (a * b % p)) H) := by
  apply call55
  unfold m55
  refine oRC_val (mul64_spec H ha ha1 hb hb1) ?_
  have h0 : 0 ≤ a * b := Int.mul_nonneg ha hb
  have h1 : a * b ≤ 18446744073709551615 * 18446744073709551615 := Int.mul_le_mul (by omega) (by omega) hb (by omega)
  refine oV_eq (v := .int .u64 (a * b / 18446744073709551616)) rfl (oV_eq (v := .int .u64 (a * b % 18446744073709551616)) rfl (oRC_val (fold_spec H hp (by omega) (by omega) (by omega) (by omega)) ⟨?_, rfl⟩))
  congr 2
  omega
theorem fadd_spec (H : Heap) {p a b : Int} (hp : Supp p) (ha : 0 ≤ a) (hb : 0 ≤ b) (h : a + b ≤ 18446744073709551615) : RCalls Tryd.prog 51 [.int .u64 p, .int .u64 a, .int .u64 b] H (Val (.int .u64 ((a + b) % p)) H) := by
  apply call51
  unfold m51
  refine oV_eq (vInt_add _ _ _) ?_
  rw [wrap_u64 (by omega) h]
  refine oRC_val (fold_spec H hp (by omega) (by omega) (by omega) h) ⟨?_, rfl⟩
  simp
theorem fneg_spec (H : Heap) {p a : Int} (ha : 0 ≤ a) (hap : a ≤ p) (hp : p ≤ 2305843009213693951) : RCalls Tryd.prog 58 [.int .u64 p, .int .u64 a] H (Val (.int .u64 (if a = 0 then 0 else p - a)) H) := by
  apply call58
  unfold m58
  refine oV_eq (vInt_eql _ _ _) (condK_dec (fun c => ?_) (fun c => ?_))
  · rw [if_pos c]
    exact ⟨rfl, rfl⟩
  · rw [if_neg c]
    refine oV_eq (vInt_sub _ _ _) ⟨?_, rfl⟩
    rw [wrap_u64 (by omega) (by omega)]
theorem fsub_spec (H : Heap) {p a b : Int} (hp : Supp p) (ha : 0 ≤ a) (hap : a < p) (hb : 0 ≤ b) (hbp : b < p) : RCalls Tryd.prog 53 [.int .u64 p, .int .u64 a, .int .u64 b] H (Val (.int .u64 ((a - b) % p)) H) := by
  have hpp := hp.pos
  apply call53
  unfold m53
  refine oRC_val (fneg_spec H hb (by omega) (by omega)) ?_
  refine oRC_val (fadd_spec H hp ha ?_ ?_) ⟨?_, rfl⟩
  · split <;> omega
  · split <;> omega
  · congr 1
    split
    · rename_i c
      rw [c]
      simp
    · rw [show a + (p - b) = a - b + p by omega, Int.add_emod_right]
end Go.Proofs.YtpbaoefjkfdgmaaDoor.SL
