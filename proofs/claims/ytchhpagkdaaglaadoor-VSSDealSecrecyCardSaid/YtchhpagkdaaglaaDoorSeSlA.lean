/- Part 1 of the proof of LawSe: SlA, one behind the other. -/
import Derived.Calls
import Derived.Orders
import Derived.Laws.AppendOwn
set_option linter.unusedVariables false
set_option linter.unusedSimpArgs false
namespace Go.Proofs.YtchhpagkdaaglaaDoor.SL
open Go

inductive Blk where
  | cells (cs : List Value) (n : Nat) (e : TypeId) (wr : Bool)
  | obj (o : Obj)

def Blk.ok : Blk → Obj → Prop
  | .cells cs n e wr, .cells c e' fr => e' = e ∧ c.size = n ∧ c.toList.take cs.length = cs ∧ (wr = true → fr = (0, 0))
  | .obj o, o' => o' = o ∧ ∀ c e fr, o ≠ .cells c e fr
  | _, _ => False

abbrev Heap := Nat → Option Blk
def hins (H : Heap) (i : Nat) (b : Blk) : Heap := fun j => if j = i then some b else H j
@[simp] theorem hins_self (H : Heap) (i : Nat) (b : Blk) : hins H i b i = some b := by simp [hins]
theorem qOZ (H : Heap) {i j : Nat} (b : Blk) (h : j ≠ i) : hins H i b j = H j := by simp [hins, h]
theorem hins_get {H : Heap} {i j : Nat} {b c : Blk} (hi : H i = none) (hj : H j = some c) : hins H i b j = some c := by
  rw [qOZ _ _ (fun e => by subst e; rw [hi] at hj; cases hj)]
  exact hj
theorem hins_none {H : Heap} {i j : Nat} {b : Blk} (h : hins H i b j = none) : j ≠ i ∧ H j = none := by
  unfold hins at h
  split at h
  · cases h
  · exact ⟨by assumption, h⟩

def Sat (H : Heap) (w : World) : Prop := ∀ i b, H i = some b → ∃ o, w.heap[i]? = some o ∧ b.ok o

def RO (H : Heap) (i : Nat) : Prop := ∃ cs n e, H i = some (.cells cs n e false)
structure Keeps (H : Heap) (w : World) (H' : Heap) (w' : World) : Prop where
  os : w'.os = w.os
  tape : w'.tape = w.tape
  output : w'.output = w.output
  size : w.heap.size ≤ w'.heap.size
  old : ∀ i, i < w.heap.size → H i = none → w'.heap[i]? = w.heap[i]?
  fresh : ∀ i, H' i ≠ none → H i ≠ none ∨ w.heap.size ≤ i
  ro : ∀ i, i < w.heap.size → RO H i → w'.heap[i]? = w.heap[i]? ∧ (H' i = none ∨ RO H' i)

theorem Keeps.refl (H : Heap) (w : World) : Keeps H w H w := ⟨rfl, rfl, rfl, Nat.le_refl _, fun _ _ _ => rfl, fun _ h => .inl h, fun _ _ h => ⟨rfl, .inr h⟩⟩
theorem Keeps.trans {H H1 H2 : Heap} {w w1 w2 : World} (h : Keeps H w H1 w1) (k : Keeps H1 w1 H2 w2) : Keeps H w H2 w2 :=
  ⟨k.os.trans h.os, k.tape.trans h.tape, k.output.trans h.output, Nat.le_trans h.size k.size,
   fun i hi hn => by
    have h1 : H1 i = none := by
      cases he : H1 i with
      | none => rfl
      | some b =>
        rcases h.fresh i (by rw [he]; simp) with h2 | h2
        · exact absurd hn h2
        · omega
    exact (k.old i (Nat.lt_of_lt_of_le hi h.size) h1).trans (h.old i hi hn),
   fun i hi => by
    rcases k.fresh i hi with h1 | h1
    · exact h.fresh i h1
    · exact .inr (Nat.le_trans h.size h1),
   fun i hi hro => by
    obtain ⟨e1, c⟩ := h.ro i hi hro
    have hi1 := Nat.lt_of_lt_of_le hi h.size
    rcases c with c | c
    · refine ⟨(k.old i hi1 c).trans e1, .inl ?_⟩
      cases he : H2 i with
      | none => rfl
      | some b =>
        rcases k.fresh i (by rw [he]; simp) with h2 | h2
        · exact absurd c h2
        · omega
    · obtain ⟨e2, d⟩ := k.ro i hi1 c
      exact ⟨e2.trans e1, d⟩⟩

theorem Sat.lt {H : Heap} {w : World} (h : Sat H w) {i : Nat} {b : Blk} (hi : H i = some b) : i < w.heap.size := by
  obtain ⟨o, ho, _⟩ := h i b hi
  exact (Array.getElem?_eq_some_iff.1 ho).1
theorem Sat.fresh {H : Heap} {w : World} (h : Sat H w) {i : Nat} (hi : w.heap.size ≤ i) : H i = none := by
  cases he : H i with
  | none => rfl
  | some b => have := h.lt he; omega
theorem Sat.drew {H : Heap} {w : World} (h : Sat H w) : Sat H w.drew := h
theorem Keeps.drew (H : Heap) (w : World) : Keeps H w H w.drew := ⟨rfl, rfl, rfl, Nat.le_refl _, fun _ _ _ => rfl, fun _ h => .inl h, fun _ _ h => ⟨rfl, .inr h⟩⟩
theorem Sat.alloc {H : Heap} {w : World} (h : Sat H w) {b : Blk} {o : Obj} (hb : b.ok o) : Sat (hins H w.heap.size b) (w.alloc o) := by
  intro i c hc
  by_cases e : i = w.heap.size
  · subst e
    rw [hins_self] at hc
    cases hc
    exact ⟨o, heap_alloc_new w o, hb⟩
  · rw [qOZ _ _ e] at hc
    obtain ⟨o', ho', hk⟩ := h i c hc
    exact ⟨o', by rw [heap_alloc_old w o i (h.lt hc)]; exact ho', hk⟩
theorem Keeps.alloc {H : Heap} {w : World} (b : Blk) (o : Obj) : Keeps H w (hins H w.heap.size b) (w.alloc o) :=
  ⟨rfl, rfl, rfl, by simp, fun i hi _ => heap_alloc_old w o i hi, fun i hi => by
    by_cases e : i = w.heap.size
    · exact .inr (by omega)
    · rw [qOZ _ _ e] at hi; exact .inl hi, fun i hi hro => ⟨heap_alloc_old w o i hi, .inr (by
    obtain ⟨cs, n, e, h⟩ := hro
    exact ⟨cs, n, e, by rw [qOZ _ _ (by omega)]; exact h⟩)⟩⟩
def Le (H G : Heap) : Prop := ∀ i b, H i = some b → G i = some b
theorem Le.refl (H : Heap) : Le H H := fun _ _ h => h
theorem Le.trans {A B C : Heap} (h : Le A B) (k : Le B C) : Le A C := fun i b hb => k i b (h i b hb)
theorem Le.ins {H : Heap} {i : Nat} (b : Blk) (hi : H i = none) : Le H (hins H i b) := fun j c hc => hins_get hi hc
theorem Sat.le {H G : Heap} {w : World} (h : Sat G w) (hl : Le H G) : Sat H w := fun i b hb => h i b (hl i b hb)
theorem Keeps.le {H H' G : Heap} {w w' : World} (h : Keeps H w H' w') (hl : Le G H') : Keeps H w G w' :=
  ⟨h.os, h.tape, h.output, h.size, h.old, fun i hi => h.fresh i (by
    cases he : G i with
    | none => exact absurd he hi
    | some b => rw [hl i b he]; simp), fun i hi hro => by
    obtain ⟨e1, c⟩ := h.ro i hi hro
    refine ⟨e1, ?_⟩
    cases he : G i with
    | none => exact .inl rfl
    | some b =>
      have h2 := hl i b he
      rcases c with c | ⟨cs, n, e, c⟩
      · rw [c] at h2; cases h2
      · rw [c] at h2; cases h2; exact .inr ⟨cs, n, e, he⟩⟩

section
variable {H : Heap} {w : World} {i n : Nat} {cs : List Value} {e : TypeId} {wr : Bool}
theorem Sat.cells (h : Sat H w) (hi : H i = some (.cells cs n e wr)) :
    ∃ c fr, w.heap[i]? = some (.cells c e fr) ∧ c.size = n ∧ c.toList.take cs.length = cs ∧ (wr = true → fr = (0, 0)) := by
  obtain ⟨o, ho, hb⟩ := h i _ hi
  cases o <;> simp only [Blk.ok] at hb
  obtain ⟨rfl, h1, h2, h3⟩ := hb
  exact ⟨_, _, ho, h1, h2, h3⟩
theorem Sat.len (h : Sat H w) (hi : H i = some (.cells cs n e wr)) : cs.length ≤ n := by
  obtain ⟨c, fr, _, h1, h2, _⟩ := h.cells hi
  have := congrArg List.length h2
  simp only [List.length_take, Array.length_toList] at this
  omega
theorem Sat.cell (h : Sat H w) (hi : H i = some (.cells cs n e wr)) {j : Nat} {v : Value} (hj : cs[j]? = some v) : w.cell? ⟨i, j, none⟩ = some v := by
  obtain ⟨c, fr, ho, h1, h2, _⟩ := h.cells hi
  rw [cell_of_row w i j c e fr ho]
  rw [← h2, List.getElem?_take] at hj
  split at hj
  · simpa using hj
  · cases hj
theorem addr_add (i off j : Nat) : (⟨i, off, none⟩ : Addr).add j = ⟨i, off + j, none⟩ := by unfold Addr.add; split <;> simp_all
theorem Sat.seg (h : Sat H w) (hi : H i = some (.cells cs n e wr)) (off m : Nat) : ∀ j v, ((cs.drop off).take m)[j]? = some v → w.cell? ((⟨i, off, none⟩ : Addr).add j) = some v := by
  intro j v hj
  rw [addr_add]
  rw [List.getElem?_take] at hj
  split at hj
  · rw [List.getElem?_drop] at hj
    exact h.cell hi hj
  · cases hj
end

def splice (l : List Value) (p : Nat) (vs : List Value) : List Value := l.take p ++ vs ++ l.drop (p + vs.length)
theorem length_splice (l : List Value) (p : Nat) (vs : List Value) (h : p ≤ l.length) : (splice l p vs).length = max l.length (p + vs.length) := by
  simp only [splice, List.length_append, List.length_take, List.length_drop]
  omega
theorem splice_take (c : List Value) (k p : Nat) (vs : List Value) (hp : p ≤ k) (hk : k ≤ c.length) (hf : p + vs.length ≤ c.length) :
    (splice c p vs).take (max k (p + vs.length)) = splice (c.take k) p vs := by
  apply List.ext_getElem?
  intro j
  simp only [splice, List.getElem?_take, List.getElem?_append, List.length_append, List.length_take, List.getElem?_drop]
  by_cases h1 : j < p
  · rw [if_pos (by omega), if_pos (by omega), if_pos (by omega), if_pos (by omega), if_pos (by omega), if_pos (by omega), if_pos h1]
    rw [if_pos (by omega)]
  · by_cases h2 : j < p + vs.length
    · rw [if_pos (by omega), if_pos (by omega), if_neg (by omega), if_pos (by omega), if_neg (by omega)]
      congr 1
      omega
    · rw [if_neg (by omega : ¬ j < min p c.length + vs.length), if_neg (by omega : ¬ j < min p (min k c.length) + vs.length)]
      by_cases h3 : j < k
      · rw [if_pos (by omega)]
        have e1 : p + vs.length + (j - (min p c.length + vs.length)) = j := by omega
        have e2 : p + vs.length + (j - (min p (min k c.length) + vs.length)) = j := by omega
        rw [e1, e2, if_pos h3]
      · rw [if_neg (by omega)]
        have e2 : p + vs.length + (j - (min p (min k c.length) + vs.length)) = j := by omega
        rw [e2, if_neg h3]

section
variable {H : Heap} {w : World} {i n : Nat} {cs : List Value} {e : TypeId} {P : Program}
theorem Sat.splice (h : Sat H w) (hi : H i = some (.cells cs n e true)) {p : Nat} {vs : List Value} (hp : p ≤ cs.length) (hf : p + vs.length ≤ n) (h1 : ∀ v ∈ vs, v.oneCell' = true) :
    ∃ w', (storeCells ⟨i, p, none⟩ vs).run P w = .ok () w' ∧ Sat (hins H i (.cells (SL.splice cs p vs) n e true)) w' ∧ Keeps H w (hins H i (.cells (SL.splice cs p vs) n e true)) w' := by
  obtain ⟨c, fr, ho, hn, ht, hfr⟩ := h.cells hi
  obtain rfl := hfr rfl
  have hlen : cs.length ≤ n := h.len hi
  have hlt := h.lt hi
  refine ⟨_, run_storeCells_at P i p e vs 0 c w ho (by simpa using (by omega : p + vs.length ≤ c.size)) h1, ?_, ?_⟩
  · intro j b hb
    by_cases ej : j = i
    · subst ej
      rw [hins_self] at hb
      cases hb
      refine ⟨_, setRow_heap w j c _ e (0, 0) ho, rfl, ?_, ?_, fun _ => rfl⟩
      · simp only [Nat.add_zero, List.size_toArray, List.length_append, List.length_take, List.length_drop, Array.length_toList]
        omega
      · rw [length_splice _ _ _ hp]
        have := splice_take c.toList cs.length p vs hp (by simp; omega) (by simp; omega)
        rw [ht] at this
        simpa [SL.splice] using this
    · rw [qOZ _ _ ej] at hb
      obtain ⟨o, ho', hk⟩ := h j b hb
      exact ⟨o, by rw [setRow_other w i j _ ej]; exact ho', hk⟩
  · refine ⟨rfl, rfl, rfl, by simp, fun j hj hn => setRow_other w i j _ (fun e => by subst e; rw [hi] at hn; cases hn), fun j hj => ?_, fun j hj hro => ?_⟩
    · by_cases ej : j = i
      · subst ej; exact .inl (by rw [hi]; simp)
      · rw [qOZ _ _ ej] at hj; exact .inl hj
    · obtain ⟨cs', n', e', h'⟩ := hro
      have ej : j ≠ i := fun e => by subst e; rw [hi] at h'; cases h'
      exact ⟨setRow_other w i j _ ej, .inr ⟨cs', n', e', by rw [qOZ _ _ ej]; exact h'⟩⟩
end
end Go.Proofs.YtchhpagkdaaglaaDoor.SL
