/- Part 18 of the proof of LawSe: SlS, one behind the other. -/
import Derived.Test.YtchhpagkdaaglaaDoorSeSlQ
set_option linter.unusedVariables false
set_option linter.unusedSimpArgs false
namespace Go.Proofs.YtchhpagkdaaglaaDoor.SL
open Go

def Own (sz : Nat) (e : TypeId) (H : Heap) (v : Value) (n : Nat) (cs : List Value) : Prop :=
  (v = .slice none 0 0 ∧ n = 0 ∧ cs = []) ∨
  ∃ j cap, v = .slice (some ⟨j, 0, none⟩) n cap ∧ n ≤ cap ∧ cap ≤ 9223372036854775807 ∧ H j = some (.cells cs (cap * sz) e true) ∧ cs.length = n * sz
def blkOf : Value → Option Nat
  | .slice (some a) _ _ => some a.block
  | _ => none
theorem Own.nil (sz : Nat) (e : TypeId) (H : Heap) : Own sz e H (.slice none 0 0) 0 [] := .inl ⟨rfl, rfl, rfl⟩
theorem Own.len {sz : Nat} {e : TypeId} {H : Heap} {v : Value} {n : Nat} {cs : List Value} (h : Own sz e H v n cs) : vLen v = some (.int .i64 n) := by
  rcases h with ⟨rfl, rfl, rfl⟩ | ⟨j, cap, rfl, _⟩ <;> rfl
theorem Own.max {sz : Nat} {e : TypeId} {H : Heap} {v : Value} {n : Nat} {cs : List Value} (h : Own sz e H v n cs) : n ≤ 9223372036854775807 := by
  rcases h with ⟨rfl, rfl, rfl⟩ | ⟨j, cap, rfl, h1, h2, _⟩ <;> omega
theorem Own.read {sz : Nat} {e : TypeId} {H : Heap} {v : Value} {n : Nat} {cs : List Value} (h : Own sz e H v n cs) : ∃ b cap, v = .slice b n cap ∧ n ≤ cap ∧ rdSlice sz H b n = some cs := by
  rcases h with ⟨rfl, rfl, rfl⟩ | ⟨j, cap, rfl, h1, h2, h3, h4⟩
  · exact ⟨none, 0, rfl, Nat.le_refl _, rfl⟩
  · refine ⟨_, cap, rfl, h1, ?_⟩
    unfold rdSlice
    split
    · subst_vars
      rw [Nat.zero_mul] at h4
      rw [List.eq_nil_of_length_eq_zero h4]
    · simp only [rdCells, h3]
      rw [if_pos (by omega), List.drop_zero, ← h4, List.take_length]
theorem Own.mono {sz : Nat} {e : TypeId} {H G : Heap} {v : Value} {n : Nat} {cs : List Value} (h : Own sz e H v n cs) (hg : ∀ j, blkOf v = some j → G j = H j) : Own sz e G v n cs := by
  rcases h with ⟨rfl, rfl, rfl⟩ | ⟨j, cap, rfl, h1, h2, h3, h4⟩
  · exact .nil _ _ _
  · exact .inr ⟨j, cap, rfl, h1, h2, by rw [hg j rfl]; exact h3, h4⟩
theorem Own.at_ {sz : Nat} {e : TypeId} {H : Heap} {v : Value} {n : Nat} {cs : List Value} (h : Own sz e H v n cs) {j : Nat} (hj : blkOf v = some j) : ∃ cs' n', H j = some (.cells cs' n' e true) := by
  rcases h with ⟨rfl, rfl, rfl⟩ | ⟨j', cap, rfl, h1, h2, h3, h4⟩
  · cases hj
  · cases hj
    exact ⟨_, _, h3⟩
theorem splice_end (cs new : List Value) : splice cs cs.length new = cs ++ new := by
  simp [splice]
theorem oAppend_own {te : TI} {e : TypeId} {v : Value} {n : Nat} {cs : List Value} {xb : Option Addr} {xl xc : Nat} {new : List Value} {H : Heap} {k : Value → Heap → Prop}
    (ho : Own te.size e H v n cs) (hx : rdSlice te.size H xb xl = some new) (h1 : ∀ v ∈ new, v.oneCell' = true) (hp : 0 < xl) (hs : 0 < te.size) (hb : (n + xl) * te.bytes ≤ 140737488355328) (hm : n + xl ≤ 9223372036854775807) (hl : new.length = xl * te.size)
    (hk : ∀ j cap, (blkOf v = some j ∨ H j = none) → n + xl ≤ cap → cap ≤ 9223372036854775807 → k (.slice (some ⟨j, 0, none⟩) (n + xl) cap) (hins H j (.cells (cs ++ new) (cap * te.size) e true))) :
    p4Z te e v (.slice xb xl xc) H k := by
  obtain ⟨b, c, rfl, hc, hr⟩ := ho.read
  refine ⟨cs, new, hr, hx, h1, hb, hm, fun hle => ?_, fun _ i c' hi hc' hc2 => hk i c' (.inr hi) hc' hc2⟩
  rcases ho with ⟨h, rfl, rfl⟩ | ⟨j, cap, h, h1, h2, h3, h4⟩
  · cases h
    omega
  · cases h
    have hn : new ≠ [] := fun e => by
      rw [e, List.length_nil] at hl
      rcases Nat.mul_eq_zero.1 hl.symm with h | h <;> omega
    simp only [oRoom, if_neg hn, h3, Nat.zero_add]
    rw [← h4]
    have hle2 : (n + xl) * te.size ≤ c * te.size := Nat.mul_le_mul_right _ hle
    rw [Nat.add_mul] at hle2
    refine ⟨Nat.le_refl _, by omega, ?_⟩
    rw [splice_end]
    exact hk j c (.inl rfl) hle h2
theorem oBuildS_one {te : TI} {e : TypeId} {v : Value} {H : Heap} {k : Value → Heap → Prop} (hz : te.zero.cells.size = te.size) (hv : v.cells.size = te.size)
    (hk : ∀ i, H i = none → k (.slice (some ⟨i, 0, none⟩) 1 1) (hins H i (.cells v.cells.toList te.size e true))) : p3Z te e 1 [((0, te.size), v)] H k := by
  have hl : (zerosL te 1).length = te.size := by simp [zerosL, hz]
  have hs : splice (zerosL te 1) 0 v.cells.toList = v.cells.toList := by
    simp only [splice, List.take_zero, List.nil_append, Nat.zero_add]
    rw [List.drop_eq_nil_of_le (by rw [hl, ← hv]; simp)]
    simp
  simp only [p3Z, fillL]
  rw [if_pos ⟨hv, by omega⟩]
  simp only [hs, oNew, Nat.one_mul]
  exact hk
theorem oBuildS_none {te : TI} {e : TypeId} {H : Heap} {k : Value → Heap → Prop} (hk : ∀ i, H i = none → k (.slice (some ⟨i, 0, none⟩) 0 0) (hins H i (.cells [] 0 e true))) : p3Z te e 0 [] H k := by
  simp only [p3Z, fillL, zerosL, List.replicate_zero, List.flatten_nil, oNew, Nat.zero_mul]
  exact hk
theorem rdSlice_ins {sz : Nat} {H : Heap} {i n m : Nat} {cs : List Value} {e : TypeId} {w : Bool} (h : cs.length = m * sz) : rdSlice sz (hins H i (.cells cs n e w)) (some ⟨i, 0, none⟩) m = some cs := by
  unfold rdSlice
  split
  · subst_vars
    rw [Nat.zero_mul] at h
    rw [List.eq_nil_of_length_eq_zero h]
  · simp only [rdCells, hins_self]
    rw [if_pos (by omega), List.drop_zero, ← h, List.take_length]

def Grown (H0 H : Heap) (sz : Nat) (e : TypeId) (v : Value) (n : Nat) (cs : List Value) : Prop := Le H0 H ∧ Own sz e H v n cs ∧ ∀ j, blkOf v = some j → H0 j = none
theorem Grown.nil (H : Heap) (sz : Nat) (e : TypeId) : Grown H H sz e (.slice none 0 0) 0 [] := ⟨Le.refl _, .nil _ _ _, fun j hj => by cases hj⟩
theorem Grown.le {H0 H G : Heap} {sz n : Nat} {e : TypeId} {v : Value} {cs : List Value} (h : Grown H0 H sz e v n cs) (hl : Le H G) : Grown H0 G sz e v n cs := by
  refine ⟨h.1.trans hl, h.2.1.mono fun j hj => ?_, h.2.2⟩
  obtain ⟨_, _, h1⟩ := h.2.1.at_ hj
  rw [h1, hl _ _ h1]
theorem none_le {G H : Heap} (hl : Le G H) {j : Nat} (h : H j = none) : G j = none := by
  cases he : G j with
  | none => rfl
  | some c => rw [hl j c he] at h; cases h
theorem append_own {te : TI} {e : TypeId} {v x : Value} {n : Nat} {cs : List Value} {H : Heap} {k : Value → Heap → Prop} (ho : Own te.size e H v n cs) (hz : te.zero.cells.size = te.size) (hv : x.cells.size = te.size) (h1 : ∀ c ∈ x.cells.toList, c.oneCell' = true) (hs : 0 < te.size)
    (hb : (n + 1) * te.bytes ≤ 140737488355328) (hm : n + 1 ≤ 9223372036854775807)
    (hk : ∀ s j cap, H s = none → j ≠ s → (blkOf v = some j ∨ H j = none) → n + 1 ≤ cap → cap ≤ 9223372036854775807 → k (.slice (some ⟨j, 0, none⟩) (n + 1) cap) (hins (hins H s (.cells x.cells.toList te.size e true)) j (.cells (cs ++ x.cells.toList) (cap * te.size) e true))) :
    p3Z te e 1 [((0, te.size), x)] H fun s H1 => p4Z te e v s H1 k := by
  refine oBuildS_one hz hv fun s hs' => ?_
  refine oAppend_own (ho.mono fun j hj => ?_) (rdSlice_ins (by simpa using hv)) h1 (by omega) hs hb hm (by simpa using hv) fun j cap hj hc hc2 => ?_
  · obtain ⟨_, _, h2⟩ := ho.at_ hj
    rw [h2, hins_get hs' h2]
  · have hjs : j ≠ s := by
      rintro rfl
      rcases hj with hj | hj
      · obtain ⟨_, _, h2⟩ := ho.at_ hj
        rw [hs'] at h2
        cases h2
      · rw [hins_self] at hj
        cases hj
    refine hk s j cap hs' hjs ?_ hc hc2
    rcases hj with hj | hj
    · exact .inl hj
    · rw [qOZ _ _ hjs] at hj
      exact .inr hj
theorem Grown.append {te : TI} {e : TypeId} {v x : Value} {n : Nat} {cs : List Value} {H0 H : Heap} {k : Value → Heap → Prop} (hg : Grown H0 H te.size e v n cs) (hz : te.zero.cells.size = te.size) (hv : x.cells.size = te.size) (h1 : ∀ c ∈ x.cells.toList, c.oneCell' = true) (hs : 0 < te.size)
    (hb : (n + 1) * te.bytes ≤ 140737488355328) (hm : n + 1 ≤ 9223372036854775807) (hk : ∀ v' H', Grown H0 H' te.size e v' (n + 1) (cs ++ x.cells.toList) → k v' H') :
    p3Z te e 1 [((0, te.size), x)] H fun s H1 => p4Z te e v s H1 k := by
  obtain ⟨hle, ho, hn⟩ := hg
  refine append_own ho hz hv h1 hs hb hm fun s j cap hs' hjs hj hc hc2 => hk _ _ ⟨?_, ?_, ?_⟩
  · have hj0 : H0 j = none := by
      rcases hj with hj | hj
      · exact hn j hj
      · exact none_le hle hj
    intro i c hi
    have hij : i ≠ j := by rintro rfl; rw [hj0] at hi; cases hi
    rw [qOZ _ _ hij]
    exact hins_get hs' (hle i c hi)
  · refine .inr ⟨j, cap, rfl, hc, hc2, hins_self _ _ _, ?_⟩
    have hl : cs.length = n * te.size := by
      rcases ho with ⟨_, rfl, rfl⟩ | ⟨_, _, _, _, _, _, h⟩
      · simp
      · exact h
    have : x.cells.toList.length = te.size := by simpa using hv
    rw [List.length_append, hl, this, Nat.succ_mul]
  · intro i hi
    cases hi
    rcases hj with hj | hj
    · exact hn j hj
    · exact none_le hle hj

theorem append_copy {te : TI} {e : TypeId} {b : Option Addr} {n cap : Nat} {cs : List Value} {H : Heap} {k : Value → Heap → Prop} (hr : rdSlice te.size H b n = some cs) (h1 : ∀ v ∈ cs, v.oneCell' = true) (hs : 0 < te.size) (hb : n * te.bytes ≤ 140737488355328)
    (hm : n ≤ 9223372036854775807) (hl : cs.length = n * te.size) (hk : ∀ v' H', Grown H H' te.size e v' n cs → k v' H') : p3Z te e 0 [] H fun s H1 => p4Z te e s (.slice b n cap) H1 k := by
  refine oBuildS_none fun i hi => ?_
  have ho : Own te.size e (hins H i (.cells [] 0 e true)) (.slice (some ⟨i, 0, none⟩) 0 0) 0 [] := .inr ⟨i, 0, rfl, by omega, by omega, by rw [hins_self, Nat.zero_mul], by simp⟩
  have hr' : rdSlice te.size (hins H i (.cells [] 0 e true)) b n = some cs := rdSlice_mono (Le.ins _ hi) hr
  by_cases hp : 0 < n
  · refine oAppend_own ho hr' h1 hp hs (by rw [Nat.zero_add]; exact hb) (by omega) hl fun j' c hj' hc' hc2 => ?_
    rw [Nat.zero_add] at hc' ⊢
    rw [List.nil_append]
    have hj0 : H j' = none := by
      rcases hj' with e | e
      · cases e
        exact hi
      · exact (hins_none e).2
    refine hk _ _ ⟨fun k d hk => ?_, .inr ⟨j', c, rfl, hc', hc2, hins_self _ _ _, hl⟩, fun k hk => by cases hk; exact hj0⟩
    rw [qOZ _ _ (fun e => by subst e; rw [hj0] at hk; cases hk)]
    exact hins_get hi hk
  · have e0 : n = 0 := by omega
    subst e0
    have ec : cs = [] := List.eq_nil_of_length_eq_zero (by omega)
    subst ec
    refine ⟨[], [], rfl, hr', (fun v hv => by cases hv), by omega, by omega, fun _ => ?_, fun h => absurd h (by omega)⟩
    simp only [oRoom, if_true]
    exact hk _ _ ⟨Le.ins _ hi, ho, fun j hj => by cases hj; exact hi⟩

def New (H H' N : Heap) : Prop := Le H H' ∧ Le N H' ∧ ∀ i, N i ≠ none → H i = none
def hun (G N : Heap) : Heap := fun i => match G i with
  | some c => some c
  | none => N i
theorem qNZ (G N : Heap) : Le G (hun G N) := fun i c h => by simp [hun, h]
theorem hun_right {G N : Heap} (h : ∀ i, N i ≠ none → G i = none) : Le N (hun G N) := fun i c hc => by
  have := h i (by rw [hc]; simp)
  simp [hun, this, hc]
theorem hun_none {G N : Heap} {i : Nat} : hun G N i = none ↔ G i = none ∧ N i = none := by
  unfold hun
  cases G i <;> simp
theorem hun_le {G N H : Heap} (h1 : Le G H) (h2 : Le N H) : Le (hun G N) H := fun i c h => by
  unfold hun at h
  cases hg : G i with
  | some d => rw [hg] at h; cases h; exact h1 i _ hg
  | none => rw [hg] at h; exact h2 i c h
def hone (j : Nat) (c : Blk) : Heap := fun i => if i = j then some c else none
theorem hone_le {H : Heap} {j : Nat} {c : Blk} (h : H j = some c) : Le (hone j c) H := fun i d hd => by
  unfold hone at hd
  split at hd
  · subst_vars
    cases hd
    exact h
  · cases hd
theorem Grown.made {α : Type} {e : El α} {xs : List α} {H0 H : Heap} {t : TypeId} {v : Value} {cs : List Value} (h : Grown H0 H e.sz t v xs.length cs) (hx : ∀ (K : Heap) i x, xs[i]? = some x → e.rel K x ((cs.drop (i * e.sz)).take e.sz)) : ∃ N, New H0 H N ∧ Sl e N v xs := by
  obtain ⟨hle, ho, hn⟩ := h
  rcases ho with ⟨rfl, h2, rfl⟩ | ⟨j, cap, rfl, h1, h2, h3, h4⟩
  · rw [List.eq_nil_of_length_eq_zero h2]
    exact ⟨fun _ => none, ⟨hle, (fun i c h => nomatch h), fun i h => absurd rfl h⟩, Sl.nil e _⟩
  · refine ⟨hone j (.cells cs (cap * e.sz) t true), ⟨hle, hone_le h3, fun i hi => ?_⟩, some ⟨j, 0, none⟩, cap, cs, rfl, h1, Nat.le_trans h1 h2, ?_, hx _⟩
    · have : i = j := by
        unfold hone at hi
        split at hi
        · assumption
        · exact absurd rfl hi
      subst this
      exact hn i rfl
    · have : Own e.sz t (hone j (.cells cs (cap * e.sz) t true)) (.slice (some ⟨j, 0, none⟩) xs.length cap) xs.length cs := .inr ⟨j, cap, rfl, h1, h2, by simp [hone], h4⟩
      obtain ⟨b, c, e1, _, hr⟩ := this.read
      cases e1
      exact hr
end Go.Proofs.YtchhpagkdaaglaaDoor.SL
