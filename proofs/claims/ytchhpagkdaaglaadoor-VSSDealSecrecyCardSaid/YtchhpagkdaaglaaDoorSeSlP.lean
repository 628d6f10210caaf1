/- Part 16 of the proof of LawSe: SlP, one behind the other. -/
import Derived.Test.YtchhpagkdaaglaaDoorSeSlO
import Derived.KernelRfl
import Derived.Laws.Externs
set_option linter.unusedVariables false
set_option linter.unusedSimpArgs false
namespace Go.Proofs.YtchhpagkdaaglaaDoor.SL
open Go
def vBuild (ti : TI) (ps : List ((Nat × Nat) × Value)) : Option Value := (fillL ti.zero.cells.toList ps).map fun cs => .agg cs.toArray
def oRC (P : Program) (f : FuncId) (args : List Value) (H : Heap) (p : List PanicEntry → Heap → Prop) (k : Value → Heap → Prop) : Prop := qVZ P f args H (endK k p)
def oCl (X : Externs) (P : Program) (f : Value) (args : List Value) (H : Heap) (p : List PanicEntry → Heap → Prop) (k : Value → Heap → Prop) : Prop := oCall X P f args H k p
def lookupT : List (Nat × TI) → Types
  | [], _ => none
  | q :: r, t => bif Nat.beq t q.1 then some q.2 else lookupT r t
def p5Z : List (Nat × List Nat) → Nat → List Nat
  | [], _ => []
  | q :: r, t => bif Nat.beq t q.1 then q.2 else p5Z r t
def AllOk (P : Program) (l : List (Nat × TI)) : Prop := ∀ q ∈ l, TIok P q.1 q.2
theorem tnil {P : Program} : AllOk P [] := fun q hq => by cases hq
theorem tcons {P : Program} {t : Nat} {ti : TI} {l : List (Nat × TI)} (h : TIok P t ti) (hl : AllOk P l) : AllOk P ((t, ti) :: l) := fun q hq => by
  rcases List.mem_cons.1 hq with rfl | hq
  · exact h
  · exact hl q hq
theorem tok_of {P : Program} : ∀ {l : List (Nat × TI)}, AllOk P l → TOk P (lookupT l)
  | [], _, t, ti, h => by simp [lookupT] at h
  | q :: l, hl, t, ti, h => by
    simp only [lookupT] at h
    cases hb : Nat.beq t q.1 with
    | true =>
      rw [hb] at h
      cases h
      rw [Nat.eq_of_beq_eq_true hb]
      exact hl q (by simp)
    | false =>
      rw [hb] at h
      exact tok_of (fun q hq => hl q (by simp [hq])) t ti h
def vAdd64 : List Value → Option Value
  | [.int .u64 x, .int .u64 y, .int .u64 c] => if 0 ≤ x ∧ 0 ≤ y ∧ 0 ≤ c ∧ c ≤ 1 then some (.tuple #[.int .u64 ((x + y + c) % 18446744073709551616), .int .u64 ((x + y + c) / 18446744073709551616)]) else none
  | _ => none
def extOf (f : Nat) : Externs := fun g => bif Nat.beq g f then some vAdd64 else none
theorem xok_of {P : Program} {f : Nat} {fn : Func} (hf : P.funcs[f]? = some fn) (hn : (fn.name == "runtime.NumGoroutine") = false) (hb : fn.body.isNone = true) (hx : Extern.findNext fn = none)
    (he : Extern.find fn = some add64Entry) : XOk P (extOf f) := by
  intro f' g args v w hg hv
  unfold extOf at hg
  cases hq : Nat.beq f' f with
  | false => rw [hq] at hg; cases hg
  | true =>
    rw [hq] at hg
    cases hg
    obtain rfl := Nat.eq_of_beq_eq_true hq
    rw [run_callFunc_extern hf hn hb hx he]
    unfold vAdd64 at hv
    split at hv
    · rename_i x y c
      split at hv
      · rename_i hb
        cases hv
        rw [run_add64 x y c hb.1 hb.2.1 hb.2.2.1 hb.2.2.2]
        rfl
      · cases hv
    · cases hv
end Go.Proofs.YtchhpagkdaaglaaDoor.SL
