/- Part 20 of the proof of LawSe: SlU, one behind the other. -/
import Derived.Test.YtchhpagkdaaglaaDoorSeSlT
set_option linter.unusedVariables false
set_option linter.unusedSimpArgs false
namespace Go.Proofs.YtchhpagkdaaglaaDoor.SL
open Go
theorem Own.length {sz : Nat} {e : TypeId} {H : Heap} {v : Value} {n : Nat} {cs : List Value} (h : Own sz e H v n cs) : cs.length = n * sz := by
  rcases h with ⟨_, rfl, rfl⟩ | ⟨_, _, _, _, _, _, h⟩
  · simp
  · exact h
theorem Own.other {sz : Nat} {e e' : TypeId} {H : Heap} {v : Value} {n : Nat} {cs : List Value} (h : Own sz e H v n cs) (hne : e ≠ e') {j m : Nat} {cs' : List Value} {w : Bool} {c : Blk} (hj : H j = some (.cells cs' m e' w)) : Own sz e (hins H j c) v n cs :=
  h.mono fun i hi => by
    obtain ⟨_, _, h1⟩ := h.at_ hi
    exact qOZ _ _ (fun e0 => by subst e0; rw [hj] at h1; cases h1; exact hne rfl)
section
variable {G H : Heap} {sz n m sz' : Nat} {e e' : TypeId} {v u : Value} {cs ds : List Value}
theorem Grown.less {G' : Heap} (h : Grown G H sz e v n cs) (hl : Le G' G) : Grown G' H sz e v n cs := ⟨hl.trans h.1, h.2.1, fun j hj => none_le hl (h.2.2 j hj)⟩
theorem Grown.ix (h : Grown G H 1 e v n cs) (k : IntKind) {i : Nat} (hi : i < n) :
    ∃ p x, p1Z 1 v (.int k i) = some p ∧ cs[i]? = some x ∧ (∀ ti : TI, ti.agg = false → qWZ ti p H = some x) ∧
      ∀ (ti : TI) (y : Value), ti.agg = false → ti.size = 1 → y.oneCell' = true → ∃ H', p2Z ti p y H = some H' ∧ Grown G H' 1 e v n (cs.set i y) ∧ (∀ {sz' e' u m ds}, Grown G H sz' e' u m ds → e' ≠ e → Grown G H' sz' e' u m ds) ∧ ∀ q cs' m e' w, H q = some (.cells cs' m e' w) → e' ≠ e → H' q = some (.cells cs' m e' w) := by
  obtain ⟨hle, ho, hn⟩ := h
  have hl := ho.length
  rcases ho with ⟨_, rfl, _⟩ | ⟨j, cap, rfl, h1, h2, h3, h4⟩
  · omega
  · have hi' : i < cs.length := by omega
    have hG := hn j rfl
    refine ⟨.pointer (some ⟨j, i, none⟩), cs[i], ?_, List.getElem?_eq_getElem hi', fun ti ht => ?_, fun ti y ht hs hy => ⟨hins H j (.cells (cs.set i y) (cap * 1) e true), ?_, ⟨?_, .inr ⟨j, cap, rfl, h1, h2, hins_self _ _ _, by simpa using h4⟩, fun x hx => hn x hx⟩, fun {sz' e' u m ds} hu hne => ⟨?_, hu.2.1.other hne h3, hu.2.2⟩, fun q cs' m e' w hq hne => ?_⟩⟩
    · simp only [p1Z]
      rw [if_pos (by omega)]
      simp
    · simp only [qWZ, h3, ht, Bool.false_eq_true, if_false]
      exact List.getElem?_eq_getElem hi'
    · simp only [p2Z, h3, stCells, ht, Bool.false_eq_true, if_false]
      rw [if_pos ⟨hs, hy, hi'⟩]
      rfl
    · intro x c hx
      rw [qOZ _ _ (fun e0 => by subst e0; rw [hG] at hx; cases hx)]
      exact hle x c hx
    · intro x c hx
      rw [qOZ _ _ (fun e0 => by subst e0; rw [hG] at hx; cases hx)]
      exact hle x c hx
    · rw [qOZ _ _ (fun e0 => by subst e0; rw [h3] at hq; cases hq; exact hne rfl)]
      exact hq
end
theorem oMake_own {te : TI} {e : TypeId} {n : Nat} {i j : IntKind} {H : Heap} {k : Value → Heap → Prop} (hz : te.zero.cells.size = te.size) (hb : te.bytes * n ≤ 281474976710656) (hn : n ≤ 281474976710656) (hk : ∀ v H', Grown H H' te.size e v n (zerosL te n) → k v H') : oMake te e (.int i n) (.int j n) H k := by
  refine ⟨⟨by omega, by omega, by omega, by rw [← Int.natCast_mul]; omega⟩, fun i hi => ?_⟩
  rw [Int.toNat_natCast]
  refine hk _ _ ⟨Le.ins _ hi, .inr ⟨i, n, rfl, Nat.le_refl _, by omega, hins_self _ _ _, ?_⟩, fun x hx => by cases hx; exact hi⟩
  simp [zerosL, hz]
theorem zerosL_one {te : TI} (h : te.zero.cells.toList = [te.zero]) (n : Nat) : zerosL te n = List.replicate n te.zero := by
  unfold zerosL
  rw [h]
  induction n with
  | zero => rfl
  | succ n ih => rw [List.replicate_succ, List.flatten_cons, ih, List.replicate_succ]; rfl
theorem Own.sl {α : Type} {e : El α} {xs : List α} {H : Heap} {t : TypeId} {v : Value} {cs : List Value} (h : Own e.sz t H v xs.length cs) (hx : ∀ i x, xs[i]? = some x → e.rel H x ((cs.drop (i * e.sz)).take e.sz)) : Sl e H v xs := by
  have hm := h.max
  obtain ⟨b, cap, rfl, hc, hr⟩ := h.read
  exact ⟨b, cap, cs, rfl, hc, hm, hr, hx⟩
theorem one_get (cs : List Value) (i : Nat) (c : Value) (h : cs[i]? = some c) : (cs.drop (i * 1)).take 1 = [c] := by
  have hi := (List.getElem?_eq_some_iff.1 h).1
  apply List.ext_getElem?
  intro j
  rw [List.getElem?_take, Nat.mul_one]
  by_cases hj : j < 1
  · have : j = 0 := by omega
    subst this
    rw [if_pos (by omega), List.getElem?_drop, Nat.add_zero, h]
    rfl
  · rw [if_neg hj, List.getElem?_eq_none (by simp; omega)]
theorem Own.sl_int {k : IntKind} {xs : List Int} {H : Heap} {t : TypeId} {v : Value} (h : Own 1 t H v xs.length (xs.map (.int k))) : Sl (eInt k) H v xs :=
  h.sl (e := eInt k) fun i x hx => one_get _ i (.int k x) (by rw [List.getElem?_map, hx]; rfl)
theorem Grown.fresh {G H : Heap} {sz n i : Nat} {e : TypeId} {v : Value} {cs : List Value} (h : Grown G H sz e v n cs) (hi : H i = none) (c : Blk) : Grown (hins G i c) (hins H i c) sz e v n cs := by
  refine ⟨fun j d hd => ?_, h.2.1.mono fun j hj => ?_, fun j hj => ?_⟩
  · by_cases e : j = i
    · subst e
      rw [hins_self] at hd ⊢
      exact hd
    · rw [qOZ _ _ e] at hd ⊢
      exact h.1 j d hd
  · obtain ⟨_, _, h1⟩ := h.2.1.at_ hj
    rw [h1, hins_get hi h1]
  · obtain ⟨_, _, h1⟩ := h.2.1.at_ hj
    rw [qOZ _ _ (fun e => by subst e; rw [hi] at h1; cases h1)]
    exact h.2.2 j hj
theorem Grown.news {G H H' N : Heap} {sz n : Nat} {e : TypeId} {v : Value} {cs : List Value} (h : Grown G H sz e v n cs) (hn : New H H' N) : Grown (hun G N) H' sz e v n cs := by
  have h' := h.le hn.1
  refine ⟨hun_le h'.1 hn.2.1, h'.2.1, fun j hj => ?_⟩
  obtain ⟨_, _, h1⟩ := h.2.1.at_ hj
  refine hun_none.2 ⟨h.2.2 j hj, ?_⟩
  cases he : N j with
  | none => rfl
  | some d => rw [hn.2.2 j (by rw [he]; simp)] at h1; cases h1
end Go.Proofs.YtchhpagkdaaglaaDoor.SL
