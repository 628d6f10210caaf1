/- What a call leaves alone; slices of slices that grow by themselves. -/
import Derived.Test.YtchhpagkdaaglaaDoorAdvO
set_option linter.unusedVariables false
set_option linter.unusedSimpArgs false
namespace Go.Proofs.YtchhpagkdaaglaaDoor.SL
open Go

def hmix (R' R H : Heap) : Heap := fun i => match R' i, R i with
  | some c, _ => some c
  | none, some _ => none
  | none, none => H i
theorem hmix_new {R' R H : Heap} {i : Nat} {c : Blk} (h : R' i = some c) : hmix R' R H i = some c := by simp only [hmix, h]
theorem hmix_old {R' R H : Heap} {i : Nat} (h : R' i = none) (h2 : R i = none) : hmix R' R H i = H i := by simp only [hmix, h, h2]
theorem hmix_gone {R' R H : Heap} {i : Nat} {c : Blk} (h : R' i = none) (h2 : R i = some c) : hmix R' R H i = none := by simp only [hmix, h, h2]
/-- A call needs to know less than is known: the rest stays as it is. -/
theorem RCalls.frameR {P : Program} {f : FuncId} {args : List Value} {R H : Heap} {Q : Ending → Heap → Prop} (h : RCalls P f args R Q) (hl : Le R H) :
    RCalls P f args H (fun e H' => ∃ R', Q e R' ∧ Le R' H' ∧ (∀ i c, H i = some c → R i = none → H' i = some c) ∧ ∀ i, R' i ≠ none → R i ≠ none ∨ H i = none) := by
  refine ⟨h.1, fun w hs => (h.2 w (hs.le hl)).mono fun e w' hw => ?_⟩
  obtain ⟨R', s1, k1, q⟩ := hw
  have hR' : ∀ i, i < w.heap.size → R i = none → R' i = none := fun i hi hn => by
    cases he : R' i with
    | none => rfl
    | some b =>
      rcases k1.fresh i (by rw [he]; simp) with h2 | h2
      · exact absurd hn h2
      · omega
  have hlt : ∀ i c, H i = some c → i < w.heap.size := fun i c hc => hs.lt hc
  have hsat : Sat (hmix R' R H) w' := by
    intro i b hb
    cases hr : R' i with
    | some c =>
      rw [hmix_new hr] at hb
      cases hb
      exact s1 i _ hr
    | none =>
      cases hr2 : R i with
      | some c0 =>
        rw [hmix_gone hr hr2] at hb
        cases hb
      | none =>
        rw [hmix_old hr hr2] at hb
        obtain ⟨o, ho, hok⟩ := hs i b hb
        exact ⟨o, by rw [k1.old i (hlt i b hb) hr2]; exact ho, hok⟩
  have hkeep : Keeps H w (hmix R' R H) w' := by
    refine ⟨k1.os, k1.tape, k1.output, k1.size, fun i hi hn => k1.old i hi (none_le hl hn), fun i hi => ?_, fun i hi hro => ?_⟩
    · cases hr : R' i with
      | some c =>
        rcases k1.fresh i (by rw [hr]; simp) with h2 | h2
        · refine .inl ?_
          cases he : R i with
          | none => exact absurd he h2
          | some d => rw [hl i d he]; simp
        · exact .inr h2
      | none =>
        cases hr2 : R i with
        | some c => rw [hmix_gone hr hr2] at hi; exact absurd rfl hi
        | none => rw [hmix_old hr hr2] at hi; exact .inl hi
    · obtain ⟨cs, n, e, hc⟩ := hro
      cases hr2 : R i with
      | some c =>
        have e2 := hl i c hr2
        rw [hc] at e2
        cases e2
        obtain ⟨e1, h3⟩ := k1.ro i hi ⟨cs, n, e, hr2⟩
        refine ⟨e1, ?_⟩
        rcases h3 with h3 | ⟨cs', n', e', h3⟩
        · exact .inl (hmix_gone h3 hr2)
        · exact .inr ⟨cs', n', e', hmix_new h3⟩
      | none =>
        have h3 := hR' i hi hr2
        exact ⟨k1.old i hi hr2, .inr ⟨cs, n, e, by rw [hmix_old h3 hr2]; exact hc⟩⟩
  refine ⟨hmix R' R H, hsat, hkeep, R', q, fun i c hc => hmix_new hc, fun i c hc hn => ?_, fun i hi => ?_⟩
  · rw [hmix_old (hR' i (hlt i c hc) hn) hn]
    exact hc
  · rcases k1.fresh i hi with h2 | h2
    · exact .inl h2
    · exact .inr (hs.fresh h2)
theorem oRC_frame {P : Program} {f : FuncId} {args : List Value} {R H : Heap} {p : List PanicEntry → Heap → Prop} {k : Value → Heap → Prop} {R0 : Value → Heap → Prop} (h : RCalls P f args R (Ret R0)) (hl : Le R H)
    (hk : ∀ v R' H', R0 v R' → Le R' H' → (∀ i c, H i = some c → R i = none → H' i = some c) → (∀ i, R' i ≠ none → R i ≠ none ∨ H i = none) → k v H') : oRC P f args H p k :=
  (h.frameR hl).mono fun e H' he => by
    obtain ⟨R', h1, h2, h3, h4⟩ := he
    cases e with
    | returned v => exact hk v R' H' h1 h2 h3 h4
    | panicked c => exact h1.elim
    | outgrown => exact h1.elim
/-- The heap H outside F is in H'. -/
def Off (F : Nat → Prop) (H H' : Heap) : Prop := ∀ b c, H b = some c → ¬ F b → H' b = some c
theorem Off.refl (F : Nat → Prop) (H : Heap) : Off F H H := fun b c h _ => h
theorem Off.le {F : Nat → Prop} {R H H' : Heap} (h : Off F H H') (hl : Le R H) (h0 : ∀ b, F b → R b = none) : Le R H' := fun b c hb => h b c (hl b c hb) fun hf => by rw [h0 b hf] at hb; cases hb
theorem Off.of_le {F : Nat → Prop} {H H' : Heap} (h : Le H H') : Off F H H' := fun b c hb _ => h b c hb
/-- F has grown to F', by what was new to H. -/
def Wide (F : Nat → Prop) (H : Heap) (F' : Nat → Prop) : Prop := (∀ b, F b → F' b) ∧ ∀ b, F' b → F b ∨ H b = none
theorem Wide.refl (F : Nat → Prop) (H : Heap) : Wide F H F := ⟨fun b h => h, fun b h => .inl h⟩
theorem Wide.none {F F' : Nat → Prop} {R H : Heap} (h : Wide F H F') (h0 : ∀ b, F b → R b = none) (hl : Le R H) : ∀ b, F' b → R b = none := fun b hb => by
  rcases h.2 b hb with h1 | h1
  · exact h0 b h1
  · exact none_le hl h1
/-- Then and then. -/
theorem Off.trans {F F' : Nat → Prop} {H H1 H2 : Heap} (h : Off F H H1) (hw : Wide F H F') (h' : Off F' H1 H2) : Off F H H2 := fun b c hb hn => h' b c (h b c hb hn) fun hf => by
  rcases hw.2 b hf with h1 | h1
  · exact hn h1
  · rw [hb] at h1; cases h1
theorem Wide.trans {F F' F'' : Nat → Prop} {H H1 : Heap} (hw : Wide F H F') (ho : Off F H H1) (hw' : Wide F' H1 F'') : Wide F H F'' := ⟨fun b hb => hw'.1 b (hw.1 b hb), fun b hb => by
  rcases hw'.2 b hb with h1 | h1
  · exact hw.2 b h1
  · by_cases hf : F b
    · exact .inl hf
    · refine .inr ?_
      cases he : H b with
      | none => rfl
      | some c => rw [ho b c he hf] at h1; cases h1⟩
/-! ### Cells that read as a list -/
def Cs {α : Type} (e : El α) (R : Heap) (cs : List Value) (xs : List α) : Prop := cs.length = xs.length * e.sz ∧ ∀ i x, xs[i]? = some x → e.rel R x ((cs.drop (i * e.sz)).take e.sz)
section
variable {α : Type} {e : El α} {R R' H : Heap} {cs c : List Value} {xs : List α} {x : α}
theorem Cs.nil (e : El α) (R : Heap) : Cs e R [] [] := ⟨by simp, fun i x h => by simp at h⟩
theorem Cs.mono (h : Cs e R cs xs) (hl : Le R R') : Cs e R' cs xs := ⟨h.1, fun i x hx => e.mono hl (h.2 i x hx)⟩
theorem Cs.snoc (h : Cs e R cs xs) (hr : e.rel R x c) : Cs e R (cs ++ c) (xs ++ [x]) := by
  have hc := e.len hr
  refine ⟨by rw [List.length_append, List.length_append, h.1, hc, List.length_singleton, Nat.add_mul, Nat.one_mul], fun i y hy => ?_⟩
  by_cases hi : i < xs.length
  · rw [List.getElem?_append_left hi] at hy
    have := h.2 i y hy
    have hb : i * e.sz + e.sz ≤ cs.length := by
      rw [h.1, ← Nat.succ_mul]
      exact Nat.mul_le_mul_right _ hi
    rw [List.drop_append_of_le_length (by omega), List.take_append_of_le_length (by rw [List.length_drop]; omega)]
    exact this
  · rw [List.getElem?_append_right (by omega)] at hy
    have e0 : i - xs.length = 0 := by
      by_cases e0 : i - xs.length = 0
      · exact e0
      · rw [List.getElem?_eq_none (by simp; omega)] at hy; cases hy
    rw [e0] at hy
    cases hy
    have hi' : i = xs.length := by omega
    subst hi'
    rw [← h.1, List.drop_left, ← hc, List.take_length]
    exact hr
theorem Cs.sl {t : TypeId} {v : Value} {n : Nat} (h : Cs e R cs xs) (hl : Le R H) (ho : Own e.sz t H v n cs) (hs : 0 < e.sz) : Sl e H v xs := by
  have hn : n = xs.length := by
    have h1 := ho.length
    rw [h.1] at h1
    exact (Nat.eq_of_mul_eq_mul_right hs h1).symm
  subst hn
  exact ho.sl fun i x hx => e.mono hl (h.2 i x hx)
end
/-! ### Slices of slices -/
def Nest (F : Nat → Prop) (sz : Nat) (ei eo : TypeId) (H : Heap) (v : Value) (rows : List (List Value)) : Prop := ∃ us : List Value, us.length = rows.length ∧ Own 1 eo H v rows.length us ∧ (∀ (j : Nat) u cs, us[j]? = some u → rows[j]? = some cs → ∃ n, Own sz ei H u n cs) ∧
  (∀ b, blkOf v = some b → F b) ∧ (∀ (j : Nat) u b, us[j]? = some u → blkOf u = some b → F b) ∧ ∀ (i j : Nat) u w b, i ≠ j → us[i]? = some u → us[j]? = some w → blkOf u = some b → blkOf w ≠ some b
section
variable {F F' : Nat → Prop} {sz : Nat} {ei eo : TypeId} {R H H' : Heap} {v : Value} {rows : List (List Value)} {j : Nat}
theorem Nest.keep (h : Nest F sz ei eo H v rows) (hk : ∀ b c, F b → H b = some c → H' b = some c) : Nest F sz ei eo H' v rows := by
  obtain ⟨us, h1, h2, h3, h4, h5, h6⟩ := h
  refine ⟨us, h1, h2.mono fun b hb => ?_, fun j u cs hu hc => ?_, h4, h5, h6⟩
  · obtain ⟨_, _, e⟩ := h2.at_ hb
    rw [e, hk b _ (h4 b hb) e]
  · obtain ⟨n, ho⟩ := h3 j u cs hu hc
    refine ⟨n, ho.mono fun b hb => ?_⟩
    obtain ⟨_, _, e⟩ := ho.at_ hb
    rw [e, hk b _ (h5 j u b hu hb) e]
theorem Nest.mono (h : Nest F sz ei eo H v rows) (hl : Le H H') : Nest F sz ei eo H' v rows := h.keep fun b c _ hb => hl b c hb
theorem Nest.len (h : Nest F sz ei eo H v rows) : vLen v = some (.int .i64 rows.length) := by
  obtain ⟨us, h1, h2, _⟩ := h
  exact h2.len
theorem Nest.max (h : Nest F sz ei eo H v rows) : rows.length ≤ 9223372036854775807 := by
  obtain ⟨us, h1, h2, _⟩ := h
  exact h2.max
theorem Nest.one (h : Nest F sz ei eo H v rows) : v.oneCell' = true := by
  obtain ⟨us, h1, h2, _⟩ := h
  rcases h2 with ⟨rfl, _⟩ | ⟨_, _, rfl, _⟩ <;> rfl
theorem Nest.get (h : Nest F sz ei eo H v rows) (hj : j < rows.length) : ∃ pt u n, vIdxS 1 v (.int .i64 j) = some pt ∧ (∀ ti : TI, ti.agg = false → vLoad ti pt H = some u) ∧ Own sz ei H u n (rows.getD j []) ∧ ∀ b, blkOf u = some b → F b := by
  obtain ⟨us, h1, h2, h3, h4, h5, h6⟩ := h
  have hju : j < us.length := by omega
  obtain ⟨n, ho⟩ := h3 j us[j] rows[j] (List.getElem?_eq_getElem hju) (List.getElem?_eq_getElem hj)
  obtain ⟨pt, x, g1, g2, g3, _⟩ := (show Grown (fun _ => none) H 1 eo v rows.length us from ⟨fun i c hc => (by cases hc), h2, fun _ _ => rfl⟩).ix .i64 hj
  have e : x = us[j] := by
    rw [List.getElem?_eq_getElem hju] at g2
    exact (Option.some.inj g2).symm
  subst e
  refine ⟨pt, us[j], n, g1, g3, ?_, fun b hb => h5 j _ b (List.getElem?_eq_getElem hju) hb⟩
  have : rows.getD j [] = rows[j] := by simp [hj]
  rw [this]
  exact ho
theorem Nest.new {n : Nat} (h : Grown H H' 1 eo v n (List.replicate n (.slice none 0 0))) : Nest (fun b => blkOf v = some b) sz ei eo H' v (List.replicate n []) := by
  refine ⟨List.replicate n (.slice none 0 0), by simp, by simpa using h.2.1, fun j u cs hu hc => ?_, fun b hb => hb, fun j u b hu hb => ?_, fun i j u w b hij hu hw hb => ?_⟩
  · have hlt : j < n := by simpa using (List.getElem?_eq_some_iff.1 hu).1
    rw [List.getElem?_replicate, if_pos hlt] at hu hc
    cases hu
    cases hc
    exact ⟨0, Own.nil _ _ _⟩
  · rw [List.getElem?_replicate] at hu
    split at hu <;> cases hu
    cases hb
  · rw [List.getElem?_replicate] at hu
    split at hu <;> cases hu
    cases hb
/-- Something is put behind the slice j. -/
theorem Nest.push {te : TI} {x : Value} (h : Nest F te.size ei eo H v rows) (hne : ei ≠ eo) (hj : j < rows.length) (hz : te.zero.cells.size = te.size) (hx : x.cells.size = te.size) (hx1 : ∀ c ∈ x.cells.toList, c.oneCell' = true) (hs : 0 < te.size)
    (hb : ∀ n, n * te.size = (rows.getD j []).length → (n + 1) * te.bytes ≤ 140737488355328 ∧ n + 1 ≤ 9223372036854775807) :
    ∃ pt u, vIdxS 1 v (.int .i64 j) = some pt ∧ (∀ ti : TI, ti.agg = false → vLoad ti pt H = some u) ∧ ∀ k : Value → Heap → Prop,
      (∀ u' H1 H2 F', Off F H H1 → vStore ⟨1, 24, .slice none 0 0, .slice ei, 0⟩ pt u' H1 = some H2 → u'.oneCell' = true → Nest F' te.size ei eo H2 v (rows.set j (rows.getD j [] ++ x.cells.toList)) → (∀ b, F' b → (F b → H b ≠ none) → H2 b ≠ none) → Wide F H F' → Off F H H2 → (∀ q cs m e w, H q = some (.cells cs m e w) → e ≠ ei → H1 q = some (.cells cs m e w)) → k u' H1) →
      oBuildS te ei 1 [((0, te.size), x)] H fun s H1 => oAppend te ei u s H1 k := by
  obtain ⟨pt, u, n, g1, g2, g3, g4⟩ := h.get hj
  refine ⟨pt, u, g1, g2, fun k hk => ?_⟩
  have hn := g3.length
  obtain ⟨hb1, hb2⟩ := hb n hn.symm
  refine append_own g3 hz hx hx1 hs hb1 hb2 fun s j' cap hs' hjs hj' hc hc2 => ?_
  obtain ⟨us, h1, h2, h3, h4, h5, h6⟩ := h
  have hju : j < us.length := by omega
  have hxl : x.cells.toList.length = te.size := by simpa using hx
  -- the outer block
  rcases h2 with ⟨_, e0, _⟩ | ⟨jo, capo, rfl, o1, o2, o3, o4⟩
  · omega
  have hpt : pt = .pointer (some ⟨jo, j, none⟩) := by
    simp only [vIdxS] at g1
    rw [if_pos (by omega)] at g1
    simpa using (Option.some.inj g1).symm
  subst hpt
  have hu : us[j]? = some u := by
    have := g2 ⟨1, 24, .slice none 0 0, .slice ei, 0⟩ rfl
    simp only [vLoad, o3] at this
    exact this
  have hjo : jo ≠ j' := by
    rintro rfl
    rcases hj' with e | e
    · obtain ⟨_, _, e2⟩ := g3.at_ e
      rw [o3] at e2
      cases e2
      exact hne rfl
    · rw [o3] at e; cases e
  have hjos : jo ≠ s := by rintro rfl; rw [o3] at hs'; cases hs'
  have off1 : ∀ b c, H b = some c → blkOf u ≠ some b → hins (hins H s (.cells x.cells.toList te.size ei true)) j' (.cells (rows.getD j [] ++ x.cells.toList) (cap * te.size) ei true) b = some c := by
    intro b c hbc hbu
    have e1 : b ≠ j' := by
      rintro rfl
      rcases hj' with e | e
      · exact hbu e
      · rw [hbc] at e; cases e
    rw [hins_other _ _ e1]
    exact hins_get hs' hbc
  have o3' := off1 jo _ o3 (fun e => by
    obtain ⟨_, _, e2⟩ := g3.at_ e
    rw [o3] at e2
    cases e2
    exact hne rfl)
  generalize hH1 : hins (hins H s (.cells x.cells.toList te.size ei true)) j' (.cells (rows.getD j [] ++ x.cells.toList) (cap * te.size) ei true) = H1 at off1 o3'
  have hj1 : H1 j' = some (.cells (rows.getD j [] ++ x.cells.toList) (cap * te.size) ei true) := by rw [← hH1]; exact hins_self _ _ _
  have own' : ∀ K : Heap, K j' = H1 j' → Own te.size ei K (.slice (some ⟨j', 0, none⟩) (n + 1) cap) (n + 1) (rows.getD j [] ++ x.cells.toList) := fun K hK =>
    .inr ⟨j', cap, rfl, hc, hc2, by rw [hK]; exact hj1, by rw [List.length_append, hn, hxl, Nat.succ_mul]⟩
  have offF : Off F H H1 := fun b c hbc hF => off1 b c hbc fun e => hF (g4 b e)
  have hst : vStore ⟨1, 24, .slice none 0 0, .slice ei, 0⟩ (.pointer (some ⟨jo, j, none⟩)) (.slice (some ⟨j', 0, none⟩) (n + 1) cap) H1 = some (hins H1 jo (.cells (us.set j (.slice (some ⟨j', 0, none⟩) (n + 1) cap)) (capo * 1) eo true)) := by
    simp only [vStore, o3', stCells]
    rw [if_neg (by simp [TI.agg]), if_pos (by refine ⟨?_, ?_, by omega⟩ <;> first | rfl | trivial)]
    rfl
  refine hk _ H1 _ (fun b => F b ∨ b = j') offF hst rfl ⟨us.set j (.slice (some ⟨j', 0, none⟩) (n + 1) cap), by simpa using h1, .inr ⟨jo, capo, by simp, by simpa using o1, o2, hins_self _ _ _, by simpa using o4⟩, fun k' u' cs hu' hcs => ?_, fun b hb' => .inl (h4 b hb'), fun k' u' b hu' hb' => ?_, fun i i' u1 u2 b hii hu1 hu2 hb' => ?_⟩ (fun b hb' hkn => ?_) ⟨fun b hb' => .inl hb', fun b hb' => ?_⟩ (fun b c hbc hF => ?_) (fun q cs m e w hq he => off1 q _ hq fun e2 => ?_)
  · by_cases e : j = k'
    · subst e
      rw [List.getElem?_set_self (by omega)] at hu' hcs
      cases hu'
      cases hcs
      exact ⟨n + 1, own' _ (hins_other _ _ (Ne.symm hjo))⟩
    · rw [List.getElem?_set_ne e] at hu' hcs
      obtain ⟨m, ho⟩ := h3 k' u' cs hu' hcs
      refine ⟨m, ho.mono fun b hb' => ?_⟩
      obtain ⟨_, _, e2⟩ := ho.at_ hb'
      have e3 : b ≠ jo := by
        rintro rfl
        rw [o3] at e2
        cases e2
        exact hne rfl
      rw [hins_other _ _ e3, e2]
      exact off1 b _ e2 fun e4 => h6 j k' u u' b e hu hu' e4 hb'
  · by_cases e : j = k'
    · subst e
      rw [List.getElem?_set_self (by omega)] at hu'
      cases hu'
      cases hb'
      exact .inr rfl
    · rw [List.getElem?_set_ne e] at hu'
      exact .inl (h5 k' u' b hu' hb')
  · have known : ∀ (k' : Nat) (w : Value) (b : Nat), us[k']? = some w → blkOf w = some b → H b ≠ none := fun k' w b hw hbw => by
      have hk' : k' < us.length := (List.getElem?_eq_some_iff.1 hw).1
      obtain ⟨m, ho⟩ := h3 k' w (rows[k']'(by omega)) hw (List.getElem?_eq_getElem _)
      obtain ⟨_, _, e2⟩ := ho.at_ hbw
      rw [e2]
      simp
    have fresh : ∀ (k' : Nat) (w : Value), k' ≠ j → us[k']? = some w → blkOf w ≠ some j' := fun k' w hkj hw e => by
      rcases hj' with e2 | e2
      · exact h6 j k' u w j' (Ne.symm hkj) hu hw e2 e
      · exact known k' w j' hw e e2
    by_cases e : j = i
    · subst e
      rw [List.getElem?_set_self (by omega)] at hu1
      rw [List.getElem?_set_ne hii] at hu2
      cases hu1
      cases hb'
      exact fresh i' u2 (Ne.symm hii) hu2
    · rw [List.getElem?_set_ne e] at hu1
      by_cases e' : j = i'
      · subst e'
        rw [List.getElem?_set_self (by omega)] at hu2
        cases hu2
        intro e3
        cases e3
        exact fresh i u1 hii hu1 hb'
      · rw [List.getElem?_set_ne e'] at hu2
        exact h6 i i' u1 u2 b hii hu1 hu2 hb'
  · by_cases e1 : b = jo
    · subst e1
      rw [hins_self]
      simp
    rw [hins_other _ _ e1]
    by_cases e2 : b = j'
    · subst e2
      rw [hj1]
      simp
    rcases hb' with hb' | hb'
    · rw [← hH1, hins_other _ _ e2]
      by_cases e3 : b = s
      · subst e3
        rw [hins_self]
        simp
      · rw [hins_other _ _ e3]
        exact hkn hb'
    · exact absurd hb' e2
  · rcases hb' with hb' | rfl
    · exact .inl hb'
    · rcases hj' with e | e
      · exact .inl (g4 _ e)
      · exact .inr e
  · have e1 : b ≠ jo := by
      rintro rfl
      exact hF (h4 _ rfl)
    rw [hins_other _ _ e1]
    exact offF b c hbc hF
  · obtain ⟨_, _, e3⟩ := g3.at_ e2
    rw [hq] at e3
    cases e3
    exact he rfl
end
end Go.Proofs.YtchhpagkdaaglaaDoor.SL
