/- Part 27 of the proof of LawSe: SlR, one behind the other. -/
import Derived.Test.YtchhpagkdaaglaaDoorSeSlQ
import Derived.Below
import Derived.OpenShut
set_option linter.unusedVariables false
set_option linter.unusedSimpArgs false
namespace Go.Proofs.YtchhpagkdaaglaaDoor.SL
open Go
open Go.RowKit (Below)

def wh (W : World) : Heap := fun i => match W.heap[i]? with
  | some (.cells c e _) => some (.cells c.toList c.size e false)
  | _ => none
theorem wh_sat (W : World) : Sat (wh W) W := by
  intro i b hb
  unfold wh at hb
  split at hb
  · rename_i c e fr ho
    cases hb
    exact ⟨_, ho, rfl, rfl, List.take_length, fun h => by cases h⟩
  · cases hb
theorem wh_ro {W : World} {i : Nat} (h : wh W i ≠ none) : RO (wh W) i := by
  unfold wh at h
  split at h
  · rename_i c e fr ho
    exact ⟨c.toList, c.size, e, by simp [wh, ho]⟩
  · exact absurd rfl h
theorem law_walk {P : Program} {f : FuncId} {args : List Value} {W : World} (h : qVZ P f args (wh W) (Ret fun v _ => v = .bool true)) :
    Calls P f args.toArray W fun e W' => e = .returned (.bool true) ∧ Below W.heap.size W W' := by
  refine (h.2 W (wh_sat W)).mono ?_
  rintro e W' ⟨H', h1, h2, h3⟩
  cases e with
  | returned v =>
    refine ⟨by rw [show v = .bool true from h3], h2.os, h2.tape, h2.output, h2.size, fun i hi => ?_⟩
    by_cases hn : wh W i = none
    · exact h2.old i hi hn
    · exact (h2.ro i hi (wh_ro hn)).1
  | panicked c => exact h3.elim
  | outgrown => exact h3.elim

def Opens {α : Type} (P : Program) (t : TypeId) (e : El α) (wf : α → Prop) : Prop :=
  ∀ {Hd : Type} {enc : TypeId × Value → Hd} {W : World} {fuel : Nat} {cs : List Value} {x : DataW Hd × List MemPlace}, DataW.trod enc P W 0 (fun _ => true) true fuel t cs = some x → ∃ a, e.rel (wh W) a cs ∧ wf a
def InR (k : IntKind) (n : Int) : Prop := (Lit.int k n).wf = true
theorem InR.u64 {n : Int} (h : InR .u64 n) : 0 ≤ n ∧ n ≤ 18446744073709551615 := by
  have : (0 ≤ n ∧ n ≤ 18446744073709551615) := by
    simp [InR, Lit.wf, IntKind.max, IntKind.min, IntKind.signed, IntKind.bits] at h
    omega
  exact this
theorem InR.i64 {n : Int} (h : InR .i64 n) : -9223372036854775808 ≤ n ∧ n ≤ 9223372036854775807 := by
  have : (-9223372036854775808 ≤ n ∧ n ≤ 9223372036854775807) := by
    simp [InR, Lit.wf, IntKind.max, IntKind.min, IntKind.signed, IntKind.bits] at h
    omega
  exact this
theorem InR.u8 {n : Int} (h : InR .u8 n) : 0 ≤ n ∧ n ≤ 255 := by
  have : (0 ≤ n ∧ n ≤ 255) := by
    simp [InR, Lit.wf, IntKind.max, IntKind.min, IntKind.signed, IntKind.bits] at h
    omega
  exact this
section
variable {P : Program} {t : TypeId}
theorem opens_int {k : IntKind} (hu : P.underlying t = some (.int k)) : Opens P t (eInt k) (InR k) := by
  intro Hd enc W fuel cs x h
  obtain ⟨n, rfl, _, hw⟩ := DataW.trod_int hu h
  exact ⟨n, rfl, hw⟩
theorem cells_row {W : World} {a : Addr} {v : Value} (h : W.cell? a = some v) : ∃ c e fr, W.heap[a.block]? = some (.cells c e fr) ∧ a.spot = none ∧ c[a.off]? = some v := by
  have hs := World.cell?_spot h
  unfold World.cell? at h
  generalize ho : W.heap[a.block]? = o at h
  cases o with
  | none => cases h
  | some o =>
    cases o with
    | cells c e fr =>
      refine ⟨c, e, fr, rfl, hs, ?_⟩
      rw [hs] at h
      simpa using h
    | _ => cases h
theorem cells_wh {W : World} {a : Addr} {n : Nat} {cs : List Value} (h : W.cells? 0 a n = some cs) (hn : 0 < n) : a.spot = none ∧ ∃ bs m e, wh W a.block = some (.cells bs m e false) ∧ a.off + n ≤ bs.length ∧ (bs.drop a.off).take n = cs := by
  obtain ⟨_, hl, hc⟩ := World.cells?_some h
  have hcell : ∀ j, (hj : j < cs.length) → W.cell? (a.add j) = some cs[j] := fun j hj => by
    rw [hc j (by omega), List.getElem?_eq_getElem hj]
  obtain ⟨c, e, fr, ho, hs, _⟩ := cells_row (hcell 0 (by omega))
  obtain ⟨b, off, spot⟩ := a
  have hs' : spot = none := by
    cases spot with
    | none => rfl
    | some x => simp [Addr.add] at hs
  subst hs'
  have ho' : W.heap[b]? = some (.cells c e fr) := by rw [addr_add] at ho; exact ho
  have hget : ∀ j, (hj : j < cs.length) → c[off + j]? = some cs[j] := fun j hj => by
    have h2 := hcell j hj
    rw [addr_add] at h2
    have h3 := cell_of_row W b (off + j) c e fr ho'
    exact h3.symm.trans h2
  refine ⟨rfl, c.toList, c.size, e, by simp [wh, ho'], ?_, ?_⟩
  · have := (Array.getElem?_eq_some_iff.1 (hget (n - 1) (by omega))).1
    simp only [Array.length_toList]
    omega
  · apply List.ext_getElem?
    intro j
    rw [List.getElem?_take]
    by_cases hj : j < n
    · rw [if_pos hj, List.getElem?_drop, List.getElem?_eq_getElem (by omega : j < cs.length)]
      have := hget j (by omega)
      simpa using this
    · rw [if_neg hj, List.getElem?_eq_none (by omega)]
theorem exists_list {α : Type} {R : Nat → α → Prop} : ∀ (n : Nat), (∀ i, i < n → ∃ x, R i x) → ∃ xs : List α, xs.length = n ∧ ∀ i x, xs[i]? = some x → R i x
  | 0, _ => ⟨[], rfl, fun i x h => by simp at h⟩
  | n + 1, h => by
    obtain ⟨xs, hl, hx⟩ := exists_list n fun i hi => h i (by omega)
    obtain ⟨x, hr⟩ := h n (by omega)
    refine ⟨xs ++ [x], by simp [hl], fun i y hy => ?_⟩
    rw [List.getElem?_append] at hy
    split at hy
    · exact hx i y hy
    · rename_i hi
      have : i = n := by
        by_cases e : i - xs.length = 0
        · omega
        · rw [List.getElem?_eq_none (by simp; omega)] at hy; cases hy
      subst this
      rw [hl, Nat.sub_self] at hy
      cases hy
      exact hr
theorem opens_slice {α : Type} {s : TypeId} {e : El α} {wf : α → Prop} (hu : P.underlying s = some (.slice t)) (hs : P.cellsOf t = e.sz) (h0 : 0 < e.sz) (he : Opens P t e wf) :
    Opens P s (qXZ e) (fun xs => ∀ x ∈ xs, wf x) := by
  intro Hd enc W fuel cs x h
  rcases DataW.trod_slice hu h with ⟨rfl, _⟩ | ⟨a, len, cap, elems, rest, n, _, rfl, _, _, hlc, hcm, hel, hE, _, _⟩
  · exact ⟨[], ⟨_, rfl, Sl.nil e _⟩, fun x hx => by cases hx⟩
  · rw [hs] at hE
    have key : ∀ i, i < len → ∃ x : α, ∃ cs, W.cells? 0 (a.add (i * e.sz)) e.sz = some cs ∧ e.rel (wh W) x cs ∧ wf x := by
      intro i hi
      have h1 := hE i hi
      rw [List.getElem?_eq_getElem (by omega)] at h1
      obtain ⟨cs, hc, ht⟩ := Option.bind_eq_some_iff.1 h1
      obtain ⟨x, hr, hw⟩ := he ht
      exact ⟨x, cs, hc, hr, hw⟩
    obtain ⟨xs, rfl, hx⟩ := exists_list len key
    refine ⟨xs, ⟨_, rfl, some a, cap, ?_⟩, fun x hm => ?_⟩
    rotate_left
    · obtain ⟨i, hi⟩ := List.mem_iff_getElem?.1 hm
      obtain ⟨_, _, _, h⟩ := hx i x hi
      exact h
    · have hmx : xs.length ≤ 9223372036854775807 := Nat.le_trans hlc (by simpa [maxLen] using hcm)
      cases hxs : xs with
      | nil => exact ⟨[], rfl, by simp, by simp, by simp [rdSlice], fun i x h => by simp at h⟩
      | cons x0 xr =>
        rw [← hxs]
        have hpos : 0 < xs.length := by rw [hxs]; simp
        obtain ⟨c0, hc0, _, _⟩ := hx 0 x0 (by rw [hxs]; rfl)
        obtain ⟨hsp, bs, m, te, hb, _, _⟩ := cells_wh hc0 h0
        obtain ⟨b, off, spot⟩ := a
        have hsp' : spot = none := by
          cases spot with
          | none => rfl
          | some x => simp [Addr.add] at hsp
        subst hsp'
        rw [addr_add] at hb
        have hb : wh W b = some (.cells bs m te false) := hb
        have seg : ∀ i x, xs[i]? = some x → ∃ cs, off + i * e.sz + e.sz ≤ bs.length ∧ (bs.drop (off + i * e.sz)).take e.sz = cs ∧ e.rel (wh W) x cs := by
          intro i x hi
          obtain ⟨cs, hc, hr, _⟩ := hx i x hi
          obtain ⟨_, bs', m', te', hb', hl, ht⟩ := cells_wh hc h0
          rw [addr_add] at hb' hl ht
          have hb' : wh W b = some (.cells bs' m' te' false) := hb'
          rw [hb] at hb'
          cases hb'
          exact ⟨cs, hl, ht, hr⟩
        obtain ⟨_, hend, _⟩ := seg (xs.length - 1) (xs[xs.length - 1]'(by omega)) (List.getElem?_eq_getElem _)
        have hend' : off + xs.length * e.sz ≤ bs.length := by
          have : (xs.length - 1) * e.sz + e.sz = xs.length * e.sz := by
            rw [← Nat.succ_mul]
            congr 1
            omega
          omega
        refine ⟨(bs.drop off).take (xs.length * e.sz), rfl, hlc, hmx, ?_, ?_⟩
        · simp only [rdSlice]
          rw [if_neg (by omega)]
          simp only [rdCells, hb]
          rw [if_pos hend']
        · intro i x hi
          obtain ⟨cs, _, rfl, hr⟩ := seg i x hi
          have hilt : i < xs.length := (List.getElem?_eq_some_iff.1 hi).1
          have hle : (i + 1) * e.sz ≤ xs.length * e.sz := Nat.mul_le_mul_right _ hilt
          rw [List.drop_take, List.drop_drop, List.take_take]
          have : min e.sz (xs.length * e.sz - i * e.sz) = e.sz := by
            rw [Nat.succ_mul] at hle
            omega
          rw [this]
          exact hr
def eArr {α : Type} (e : El α) (n : Nat) : El (List α) where
  sz := n * e.sz
  rel H xs cs := xs.length = n ∧ cs.length = n * e.sz ∧ ∀ i x, xs[i]? = some x → e.rel H x ((cs.drop (i * e.sz)).take e.sz)
  len := fun h => h.2.1
  mono := fun hl h => ⟨h.1, h.2.1, fun i x hx => e.mono hl (h.2.2 i x hx)⟩
theorem opens_arr {α : Type} {s : TypeId} {e : El α} {n : Nat} {wf : α → Prop} (hu : P.underlying s = some (.array n t)) (hc : P.cellsOf s = n * e.sz) (hs : P.cellsOf t = e.sz) (he : Opens P t e wf) :
    Opens P s (eArr e n) (fun xs => ∀ x ∈ xs, wf x) := by
  intro Hd enc W fuel cs x h
  obtain ⟨xs, m, _, _, hl, hn, hd⟩ := DataW.trod_array hu h
  rw [hs] at hd
  have key : ∀ i, i < n → ∃ y : α, e.rel (wh W) y ((cs.drop (i * e.sz)).take e.sz) ∧ wf y := by
    intro i hi
    have h1 := hd i hi
    rw [List.getElem?_eq_getElem (by omega)] at h1
    exact he h1
  obtain ⟨ys, hy, hr⟩ := exists_list n key
  refine ⟨ys, ⟨hy, by rw [hl, hc], fun i y hi => (hr i y hi).1⟩, fun y hm => ?_⟩
  obtain ⟨i, hi⟩ := List.mem_iff_getElem?.1 hm
  exact (hr i y hi).2
theorem agg_of {v : Value} {cs : List Value} (h : v.cells.toList = cs) (hn : cs.length ≠ 1) : v = .agg cs.toArray := by
  cases v <;> first
    | (exfalso; apply hn; rw [← h]; rfl)
    | (subst h; simp [Value.cells])
theorem arr2_int {k : IntKind} {H : Heap} {xs : List Int} {cs : List Value} (h : (eArr (eInt k) 2).rel H xs cs) : ∃ x y, xs = [x, y] ∧ cs = [.int k x, .int k y] := by
  obtain ⟨h1, h2, h3⟩ := h
  match xs, h1, cs, h2 with
  | [x, y], _, [c, d], _ =>
    have e1 := h3 0 x rfl
    have e2 := h3 1 y rfl
    cases e1
    cases e2
    exact ⟨x, y, rfl, rfl⟩
end
end Go.Proofs.YtchhpagkdaaglaaDoor.SL
