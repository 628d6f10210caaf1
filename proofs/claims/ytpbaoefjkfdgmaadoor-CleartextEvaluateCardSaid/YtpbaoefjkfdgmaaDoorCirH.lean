/- The reference's effective inputs. -/
import Derived.Test.YtpbaoefjkfdgmaaDoorCirG
import Derived.Test.YtpbaoefjkfdgmaaDoorSlU
set_option linter.unusedVariables false
set_option linter.unusedSimpArgs false
namespace Go.Proofs.YtpbaoefjkfdgmaaDoor.SL
open Go

theorem local_gate (g : Gate) {H : Heap} {K : Nat → Heap → Prop} (hk : ∀ i, H i = none → K i (hins H i (.cells g.cells 5 37 true))) :
    oNew ty37.zero.cells.toList ty37.zero.cells.toList.length 37 H fun i H1 => oHeap (vStore ty37 (ptrTo i) g.val H1) fun H2 => K i H2 := by
  show oNew [.int .i64 0, .int .i64 0, .int .i64 0, .int .i64 0, .int .u64 0] 5 37 H _
  intro i hi
  have e : vStore ty37 (ptrTo i) g.val (hins H i (.cells [.int .i64 0, .int .i64 0, .int .i64 0, .int .i64 0, .int .u64 0] 5 37 true)) = some (hins H i (.cells g.cells 5 37 true)) := by
    have : vStore ty37 (ptrTo i) g.val (hins H i (.cells [.int .i64 0, .int .i64 0, .int .i64 0, .int .i64 0, .int .u64 0] 5 37 true)) = some (hins (hins H i (.cells [.int .i64 0, .int .i64 0, .int .i64 0, .int .i64 0, .int .u64 0] 5 37 true)) i (.cells g.cells 5 37 true)) := by
      simp only [vStore, ptrTo, hins_self]
      rfl
    rw [this, hins_hins]
  exact oHeap_eq e (hk i hi)
structure GateAt (H : Heap) (i : Nat) (g : Gate) : Prop where
  blk : H i = some (.cells g.cells 5 37 true)
section
variable {H : Heap} {i : Nat} {g : Gate}
theorem GateAt.l0 (h : GateAt H i g) : vLoad ty3 (.pointer (some ⟨i, 0, none⟩)) H = some (.int .i64 g.kind) := by simp only [vLoad, h.blk]; rfl
theorem GateAt.l1 (h : GateAt H i g) : vLoad ty3 (.pointer (some ⟨i, 1, none⟩)) H = some (.int .i64 g.frm) := by simp only [vLoad, h.blk]; rfl
theorem GateAt.l2 (h : GateAt H i g) : vLoad ty3 (.pointer (some ⟨i, 2, none⟩)) H = some (.int .i64 g.a) := by simp only [vLoad, h.blk]; rfl
theorem GateAt.l3 (h : GateAt H i g) : vLoad ty3 (.pointer (some ⟨i, 3, none⟩)) H = some (.int .i64 g.b) := by simp only [vLoad, h.blk]; rfl
theorem GateAt.l4 (h : GateAt H i g) : vLoad ty22 (.pointer (some ⟨i, 4, none⟩)) H = some (.int .u64 g.k) := by simp only [vLoad, h.blk]; rfl
theorem GateAt.mono {H' : Heap} (h : GateAt H i g) (hl : Le H H') : GateAt H' i g := ⟨hl _ _ h.blk⟩
end
/-- How many inputs each party has taken. -/
def counts (n : Nat) (gs : List Gate) : List Int := (List.range n).map fun (j : Nat) => ((inCount (j + 1) gs : Nat) : Int)
/-- Whether a party gives a number above 1 where a bit is asked. -/
def badUpto (gs : List Gate) (l : List Int) (f : Int) : Nat → Bool
  | 0 => false
  | i + 1 => badUpto gs l f i || match gs[i]? with
    | some g => inOf f g && (decide (g.k = 1) && decide (1 < l.getD (inCount f (gs.take i)) 0))
    | none => false
def bads (ins : List (List Int)) (gs : List Gate) (i : Nat) : List Bool := (List.range ins.length).map fun (j : Nat) => badUpto gs (ins.getD j []) (j + 1) i
def eff (gs : List Gate) (ins : List (List Int)) : List (List Int) := (List.range ins.length).map fun (j : Nat) => if badUpto gs (ins.getD j []) (j + 1) gs.length then List.replicate (ins.getD j []).length 0 else ins.getD j []
theorem counts_len (n : Nat) (gs : List Gate) : (counts n gs).length = n := by simp [counts]
theorem counts_get (n : Nat) (gs : List Gate) {j : Nat} (h : j < n) : (counts n gs)[j]? = some (inCount (j + 1) gs : Int) := by simp [counts, h]
theorem counts_skip (n : Nat) (gs : List Gate) {i : Nat} (h : i < gs.length) (hk : gs[i].kind ≠ 1) : counts n (gs.take (i + 1)) = counts n (gs.take i) := by
  unfold counts
  apply List.map_congr_left
  intro j _
  rw [inCount_take _ gs i h, if_neg (fun c => hk c.1)]
  rfl
theorem counts_take (n : Nat) (gs : List Gate) {i j : Nat} (h : i < gs.length) (hk : gs[i].kind = 1) (hj : j < n) (hf : gs[i].frm = j + 1) : counts n (gs.take (i + 1)) = (counts n (gs.take i)).set j ((inCount (j + 1) (gs.take i) : Int) + 1) := by
  apply List.ext_getElem?
  intro x
  by_cases hx : x < n
  · rw [counts_get _ _ hx, List.getElem?_set, inCount_take _ gs i h]
    by_cases e : j = x
    · subst e
      rw [if_pos rfl, if_pos ⟨hk, hf⟩, if_pos (by rw [counts_len]; exact hx)]
      simp
    · rw [if_neg e, counts_get _ _ hx, if_neg (fun c => e (by have := c.2; omega))]
      simp
  · rw [List.getElem?_eq_none (by rw [counts_len]; omega), List.getElem?_eq_none (by rw [List.length_set, counts_len]; omega)]
theorem bads_skip (ins : List (List Int)) (gs : List Gate) {i : Nat} (h : i < gs.length) (hk : gs[i].kind ≠ 1) : bads ins gs (i + 1) = bads ins gs i := by
  unfold bads
  apply List.map_congr_left
  intro j _
  simp only [badUpto, List.getElem?_eq_getElem h, inOf, decide_eq_false hk, Bool.false_and, Bool.or_false]
theorem bads_len (ins : List (List Int)) (gs : List Gate) (i : Nat) : (bads ins gs i).length = ins.length := by simp [bads]
theorem bads_get (ins : List (List Int)) (gs : List Gate) (i : Nat) {j : Nat} (h : j < ins.length) : (bads ins gs i)[j]? = some (badUpto gs ins[j] (j + 1) i) := by
  simp [bads, h]
theorem bads_take (ins : List (List Int)) (gs : List Gate) {i j : Nat} (h : i < gs.length) (hk : gs[i].kind = 1) (hj : j < ins.length) (hf : gs[i].frm = j + 1) (b : Bool)
    (hb : b = (decide (gs[i].k = 1) && decide (1 < ins[j].getD (inCount (j + 1) (gs.take i)) 0))) : bads ins gs (i + 1) = if b then (bads ins gs i).set j true else bads ins gs i := by
  have key : ∀ x, (hx : x < ins.length) → badUpto gs ins[x] (x + 1) (i + 1) = if x = j ∧ b = true then true else badUpto gs ins[x] (x + 1) i := by
    intro x hx
    simp only [badUpto, List.getElem?_eq_getElem h]
    by_cases e : x = j
    · subst e
      have : inOf ((x : Int) + 1) gs[i] = true := by simp [inOf, hk, hf]
      rw [this, Bool.true_and, ← hb]
      cases b <;> simp
    · have : inOf ((x : Int) + 1) gs[i] = false := by
        unfold inOf
        rw [decide_eq_false (show ¬ gs[i].frm = (x : Int) + 1 by omega), Bool.and_false]
      rw [this, Bool.false_and, Bool.or_false, if_neg (fun c => e c.1)]
  apply List.ext_getElem?
  intro x
  by_cases hx : x < ins.length
  · rw [bads_get _ _ _ hx, key x hx]
    cases b with
    | false => simp [bads_get _ _ _ hx]
    | true =>
      rw [if_pos rfl, List.getElem?_set, bads_len]
      by_cases e : j = x
      · subst e
        simp [hx]
      · rw [if_neg e, if_neg (fun c => e c.1.symm), bads_get _ _ _ hx]
  · rw [List.getElem?_eq_none (by rw [bads_len]; omega), List.getElem?_eq_none]
    split <;> simp [bads_len] <;> omega
end Go.Proofs.YtpbaoefjkfdgmaaDoor.SL
