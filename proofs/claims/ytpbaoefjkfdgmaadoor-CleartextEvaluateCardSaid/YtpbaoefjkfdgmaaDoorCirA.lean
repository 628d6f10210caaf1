/- Gates and circuits as values. -/
import Derived.Test.YtpbaoefjkfdgmaaDoorNumC
set_option linter.unusedVariables false
set_option linter.unusedSimpArgs false
namespace Go.Proofs.YtpbaoefjkfdgmaaDoor.SL
open Go

theorem rsub_spec (H : Heap) {p a b : Int} (hp : 0 < p) (ha : 0 ≤ a) (hb : 0 ≤ b) (hbp : b ≤ p) (h : a + p ≤ 18446744073709551615) : RCalls Tryd.prog 17 [.int .u64 p, .int .u64 a, .int .u64 b] H (Val (.int .u64 ((a - b) % p)) H) := by
  apply call17
  unfold m17
  simp only [vInt_add, vInt_sub, oV_some, vInt_rem, wrap_u64 (by omega : 0 ≤ a + p) h, wrap_u64 (by omega : 0 ≤ a + p - b) (by omega)]
  rw [if_neg (by omega), oV_some, Int.tmod_eq_emod_of_nonneg (by omega)]
  refine ⟨?_, rfl⟩
  congr 1
  rw [show a + p - b = a - b + p by omega, Int.add_emod_right]
structure Gate where
  kind : Int
  frm : Int
  a : Int
  b : Int
  k : Int
  deriving DecidableEq
def Gate.cells (g : Gate) : List Value := [.int .i64 g.kind, .int .i64 g.frm, .int .i64 g.a, .int .i64 g.b, .int .u64 g.k]
def Gate.val (g : Gate) : Value := .agg #[.int .i64 g.kind, .int .i64 g.frm, .int .i64 g.a, .int .i64 g.b, .int .u64 g.k]
theorem gate_cells (g : Gate) : g.val.cells.toList = g.cells := rfl
def eGate : El Gate where
  sz := 5
  rel _ g cs := cs = g.cells
  len := by rintro H x cs rfl; rfl
  mono := by rintro H G x cs _ h; exact h
def gcells (gs : List Gate) : List Value := gs.flatMap Gate.cells
theorem gcells_len (gs : List Gate) : (gcells gs).length = gs.length * 5 := by
  induction gs with
  | nil => rfl
  | cons g gs ih =>
    have : gcells (g :: gs) = g.cells ++ gcells gs := rfl
    rw [this, List.length_append, ih, List.length_cons]
    show 5 + _ = _
    omega
theorem gcells_snoc (gs : List Gate) (g : Gate) : gcells (gs ++ [g]) = gcells gs ++ g.cells := by simp [gcells]
theorem gcells_get : ∀ (gs : List Gate) (i : Nat) (g : Gate), gs[i]? = some g → ((gcells gs).drop (i * 5)).take 5 = g.cells
  | [], i, g, h => by simp at h
  | x :: gs, 0, g, h => by
    cases h
    rfl
  | x :: gs, i + 1, g, h => by
    have e : (gcells (x :: gs)).drop ((i + 1) * 5) = (gcells gs).drop (i * 5) := by
      show (x.cells ++ gcells gs).drop _ = _
      rw [show (i + 1) * 5 = x.cells.length + i * 5 by show _ = 5 + _; omega, ← List.drop_drop, List.drop_left]
    rw [e]
    exact gcells_get gs i g (by simpa using h)
theorem gcells_one (gs : List Gate) : ∀ v ∈ gcells gs, v.oneCell' = true := by
  intro v hv
  obtain ⟨g, _, hg⟩ := List.mem_flatMap.1 hv
  simp only [Gate.cells, List.mem_cons, List.not_mem_nil, or_false] at hg
  rcases hg with rfl | rfl | rfl | rfl | rfl <;> rfl
def icells (xs : List Int) : List Value := xs.map (.int .i64)

theorem hins_hins (H : Heap) (i : Nat) (c c' : Blk) : hins (hins H i c) i c' = hins H i c' := by
  funext j
  by_cases e : j = i
  · subst e; simp
  · simp [hins_other _ _ e]
theorem icells_get (xs : List Int) (k : IntKind) (i : Nat) (x : Int) (h : xs[i]? = some x) : ((xs.map (Value.int k)).drop (i * 1)).take 1 = [.int k x] := by
  have hi := (List.getElem?_eq_some_iff.1 h).1
  apply List.ext_getElem?
  intro j
  rw [List.getElem?_take, Nat.mul_one]
  by_cases hj : j < 1
  · have : j = 0 := by omega
    subst this
    rw [if_pos (by omega), List.getElem?_drop, Nat.add_zero, List.getElem?_map, h]
    rfl
  · rw [if_neg hj, List.getElem?_eq_none (by simp; omega)]
/-- The value c is a circuit. -/
def Circ (H : Heap) (c : Value) (p : Int) (gs : List Gate) (os : List Int) : Prop := ∃ gv ov, c = .agg #[.int .u64 p, gv, ov] ∧ Sl eGate H gv gs ∧ Sl (eInt .i64) H ov os
theorem Circ.mono {H H' : Heap} {c : Value} {p : Int} {gs : List Gate} {os : List Int} (h : Circ H c p gs os) (hl : Le H H') : Circ H' c p gs os := by
  obtain ⟨gv, ov, rfl, h1, h2⟩ := h
  exact ⟨gv, ov, rfl, h1.mono hl, h2.mono hl⟩
end Go.Proofs.YtpbaoefjkfdgmaaDoor.SL
