/- Part 17 of the proof of LawSe: SlQ, one behind the other. -/
import Derived.Test.YtchhpagkdaaglaaDoorSeSlP
set_option linter.unusedVariables false
set_option linter.unusedSimpArgs false
namespace Go.Proofs.YtchhpagkdaaglaaDoor.SL
open Go

section
variable (k : IntKind) (a b : Int)
@[simp] theorem vInt_add : vInt .add (.int k a) (.int k b) = some (.int k (k.wrap (a + b))) := by simp [vInt]
@[simp] theorem vInt_sub : vInt .sub (.int k a) (.int k b) = some (.int k (k.wrap (a - b))) := by simp [vInt]
@[simp] theorem vInt_mul : vInt .mul (.int k a) (.int k b) = some (.int k (k.wrap (a * b))) := by simp [vInt]
@[simp] theorem vInt_quo : vInt .quo (.int k a) (.int k b) = if b = 0 then none else some (.int k (k.wrap (a.tdiv b))) := by simp [vInt]
@[simp] theorem vInt_rem : vInt .rem (.int k a) (.int k b) = if b = 0 then none else some (.int k (a.tmod b)) := by simp [vInt]
@[simp] theorem vInt_and : vInt .and (.int k a) (.int k b) = some (.int k (k.wrap (BitVec.ofInt k.bits a &&& BitVec.ofInt k.bits b).toNat)) := by simp [vInt]
@[simp] theorem vInt_or : vInt .or (.int k a) (.int k b) = some (.int k (k.wrap (BitVec.ofInt k.bits a ||| BitVec.ofInt k.bits b).toNat)) := by simp [vInt]
@[simp] theorem vInt_xor : vInt .xor (.int k a) (.int k b) = some (.int k (k.wrap (BitVec.ofInt k.bits a ^^^ BitVec.ofInt k.bits b).toNat)) := by simp [vInt]
@[simp] theorem q5Z : vInt .eql (.int k a) (.int k b) = some (.bool (decide (a = b))) := by simp [vInt]; by_cases h : a = b <;> simp [h]
@[simp] theorem q6Z : vInt .neq (.int k a) (.int k b) = some (.bool (decide (a ≠ b))) := by simp [vInt]; by_cases h : a = b <;> simp [h]
@[simp] theorem q7Z : vInt .lss (.int k a) (.int k b) = some (.bool (decide (a < b))) := by simp [vInt]
@[simp] theorem q8Z : vInt .leq (.int k a) (.int k b) = some (.bool (decide (a ≤ b))) := by simp [vInt]
@[simp] theorem q9Z : vInt .gtr (.int k a) (.int k b) = some (.bool (decide (b < a))) := by simp [vInt]
@[simp] theorem q0Z : vInt .geq (.int k a) (.int k b) = some (.bool (decide (b ≤ a))) := by simp [vInt]
end
@[simp] theorem vInt_shl (k k' : IntKind) (a b : Int) : vInt .shl (.int k a) (.int k' b) = if b < 0 then none else some (.int k (k.wrap (a * 2 ^ (min b.toNat k.bits)))) := rfl
@[simp] theorem vInt_shr (k k' : IntKind) (a b : Int) : vInt .shr (.int k a) (.int k' b) = if b < 0 then none else some (.int k (a.fdiv (2 ^ (min b.toNat k.bits)))) := rfl
theorem pBZ {x : Int} (h0 : -9223372036854775808 ≤ x) (h1 : x ≤ 9223372036854775807) : IntKind.i64.wrap x = x := by
  have e : IntKind.i64.wrap x = if 9223372036854775808 ≤ x % 18446744073709551616 then x % 18446744073709551616 - 18446744073709551616 else x % 18446744073709551616 := by
    simp [IntKind.wrap, IntKind.bits, IntKind.signed]
  rw [e]
  split <;> omega
theorem wrap_u64 {x : Int} (h0 : 0 ≤ x) (h1 : x ≤ 18446744073709551615) : IntKind.u64.wrap x = x := by
  unfold IntKind.wrap
  simp only [IntKind.bits, IntKind.signed, Bool.false_and, Bool.false_eq_true, if_false]
  omega
theorem wrap_u64_mod (x : Int) : IntKind.u64.wrap x = x % 18446744073709551616 := by
  unfold IntKind.wrap
  simp only [IntKind.bits, IntKind.signed, Bool.false_and, Bool.false_eq_true, if_false]
  rfl
@[simp] theorem qAZ (b : Bool) : vUn .not (.bool b) = some (.bool !b) := rfl
@[simp] theorem vPick_bool (c : Bool) (a b : Value) : pAZ (.bool c) a b = some (if c then a else b) := rfl
@[simp] theorem q4Z (a : Addr) : vNil (.pointer (some a)) = some (.pointer (some a)) := rfl
@[simp] theorem q3Z (i : Nat) : vNil (qTZ i) = some (qTZ i) := rfl
@[simp] theorem q2Z (fo i off : Nat) : qYZ fo (.pointer (some ⟨i, off, none⟩)) = some (.pointer (some ⟨i, off + fo, none⟩)) := rfl
@[simp] theorem q1Z (fo i : Nat) : qYZ fo (qTZ i) = some (.pointer (some ⟨i, fo, none⟩)) := by simp [qTZ]
@[simp] theorem qCZ (k k' : IntKind) (n : Int) : vConv (.int k) (.int k' n) = some (.int k (k.wrap n)) := rfl
@[simp] theorem vMax_int (k : IntKind) (x y : Int) : vMax (.int k x) (.int k y) = some (.int k (max x y)) := by
  simp only [vMax]
  congr 2
  split <;> omega
@[simp] theorem vMin_int (k : IntKind) (x y : Int) : vMin (.int k x) (.int k y) = some (.int k (min x y)) := by
  simp only [vMin]
  congr 2
  split <;> omega
@[simp] theorem qBZ (a : Option Addr) (n c : Nat) : vLen (.slice a n c) = some (.int .i64 n) := rfl
@[simp] theorem vExtract_tuple (vs : Array Value) (i : Nat) : p0Z (.tuple vs) i = vs[i]? := rfl
theorem qMZ {A B : Prop} (h : A) : p7Z (.bool true) A B := ⟨fun _ => h, fun h => by cases h⟩
theorem qLZ {A B : Prop} (h : B) : p7Z (.bool false) A B := ⟨fun h => (by cases h), fun _ => h⟩
theorem qJZ {p : Prop} [Decidable p] {A B : Prop} (ha : p → A) (hb : ¬ p → B) : p7Z (.bool (decide p)) A B := ⟨fun h => ha (of_decide_eq_true h), fun h => hb (of_decide_eq_false h)⟩
@[simp] theorem gV_bool (b want : Bool) (x y : Option Value) : gV (.bool b) want x y = if b = want then x else y := by
  cases b <;> cases want <;> rfl
@[simp] theorem gK_bool (b want : Bool) (A B : Prop) : gK (.bool b) want A B = ((b = want → A) ∧ (b ≠ want → B)) := rfl
@[simp] theorem retM_one (v : Value) (Q : Ending → Heap → Prop) (H : Heap) : retM (some [v]) Q H = Q (.returned v) H := rfl

def Ret (R : Value → Heap → Prop) : Ending → Heap → Prop
  | .returned v, H => R v H
  | _, _ => False
def Val (x : Value) (H : Heap) : Ending → Heap → Prop := Ret fun v H' => v = x ∧ H' = H
section
variable {P : Program} {f : FuncId} {args : List Value} {H : Heap} {p : List PanicEntry → Heap → Prop} {k : Value → Heap → Prop}
theorem p9Z {R : Value → Heap → Prop} (h : qVZ P f args H (Ret R)) (hk : ∀ v H', R v H' → k v H') : oRC P f args H p k :=
  h.mono fun e H' he => by cases e <;> first | exact hk _ _ he | exact he.elim
theorem oRC_val {x : Value} (h : qVZ P f args H (Val x H)) (hk : k x H) : oRC P f args H p k := p9Z h (by rintro v H' ⟨rfl, rfl⟩; exact hk)
theorem qVZ.ret {R R' : Value → Heap → Prop} (h : qVZ P f args H (Ret R)) (hk : ∀ v H', R v H' → R' v H') : qVZ P f args H (Ret R') :=
  h.mono fun e H' he => by cases e <;> first | exact hk _ _ he | exact he.elim
end

structure El (α : Type) where
  sz : Nat
  rel : Heap → α → List Value → Prop
  len : ∀ {H x cs}, rel H x cs → cs.length = sz
  mono : ∀ {H G x cs}, Le H G → rel H x cs → rel G x cs
def eInt (k : IntKind) : El Int where
  sz := 1
  rel _ n cs := cs = [.int k n]
  len h := by subst h; rfl
  mono _ h := h
def eBool : El Bool where
  sz := 1
  rel _ n cs := cs = [.bool n]
  len h := by subst h; rfl
  mono _ h := h
def Sl {α : Type} (e : El α) (H : Heap) (v : Value) (xs : List α) : Prop :=
  ∃ b cap cs, v = .slice b xs.length cap ∧ xs.length ≤ cap ∧ xs.length ≤ 9223372036854775807 ∧ rdSlice e.sz H b xs.length = some cs ∧
    ∀ i x, xs[i]? = some x → e.rel H x ((cs.drop (i * e.sz)).take e.sz)
theorem Sl.mono {α : Type} {e : El α} {H G : Heap} {v : Value} {xs : List α} (hl : Le H G) (h : Sl e H v xs) : Sl e G v xs := by
  obtain ⟨b, cap, cs, h1, h2, h3, h4, h5⟩ := h
  exact ⟨b, cap, cs, h1, h2, h3, rdSlice_mono hl h4, fun i x hx => e.mono hl (h5 i x hx)⟩
def qXZ {α : Type} (e : El α) : El (List α) where
  sz := 1
  rel H xs cs := ∃ v, cs = [v] ∧ Sl e H v xs
  len := by rintro H x cs ⟨v, rfl, _⟩; rfl
  mono := by rintro H G x cs hl ⟨v, rfl, h⟩; exact ⟨v, rfl, h.mono hl⟩
def At (H : Heap) (p : Value) (cs : List Value) : Prop := ∃ j off bs n e wr, p = .pointer (some ⟨j, off, none⟩) ∧ H j = some (.cells bs n e wr) ∧ off + cs.length ≤ bs.length ∧ (bs.drop off).take cs.length = cs
theorem At.load {H : Heap} {p v : Value} {ti : TI} (h : At H p [v]) (hk : ti.agg = false) : qWZ ti p H = some v := by
  obtain ⟨j, off, bs, n, e, wr, rfl, hj, hl, ht⟩ := h
  simp only [qWZ, hj, hk, Bool.false_eq_true, if_false]
  have := congrArg (·[0]?) ht
  simpa using this
theorem At.loadA {H : Heap} {p : Value} {cs : List Value} {ti : TI} (h : At H p cs) (hk : ti.agg = true) (hs : ti.size = cs.length) : qWZ ti p H = some (.agg cs.toArray) := by
  obtain ⟨j, off, bs, n, e, wr, rfl, hj, hl, ht⟩ := h
  simp only [qWZ, hj, hk, if_true, hs, if_pos hl, ht]
theorem At.field {H : Heap} {p : Value} {cs : List Value} (h : At H p cs) (fo m : Nat) (hm : fo + m ≤ cs.length) : ∃ q, qYZ fo p = some q ∧ At H q ((cs.drop fo).take m) := by
  obtain ⟨j, off, bs, n, e, wr, rfl, hj, hl, ht⟩ := h
  refine ⟨_, rfl, j, off + fo, bs, n, e, wr, rfl, hj, ?_, ?_⟩
  · simp only [List.length_take, List.length_drop]; omega
  · have hlen : ((cs.drop fo).take m).length = m := by simp; omega
    rw [hlen, ← ht, ← List.drop_drop, List.drop_take, List.take_take]
    congr 1
    omega
theorem Sl.len {α : Type} {e : El α} {H : Heap} {v : Value} {xs : List α} (h : Sl e H v xs) : vLen v = some (.int .i64 xs.length) := by
  obtain ⟨b, cap, cs, rfl, _⟩ := h
  rfl
theorem Sl.max {α : Type} {e : El α} {H : Heap} {v : Value} {xs : List α} (h : Sl e H v xs) : xs.length ≤ 9223372036854775807 := by
  obtain ⟨b, cap, cs, rfl, _, h, _⟩ := h
  exact h
theorem Sl.at_ {α : Type} {e : El α} {H : Heap} {v : Value} {xs : List α} (h : Sl e H v xs) (k : IntKind) {i : Int} (h0 : 0 ≤ i) (h1 : i < xs.length) :
    ∃ p cs x, p1Z e.sz v (.int k i) = some p ∧ xs[i.toNat]? = some x ∧ e.rel H x cs ∧ At H p cs := by
  obtain ⟨b, cap, cs, rfl, h2, h3, h4, h5⟩ := h
  obtain ⟨i, rfl⟩ := Int.eq_ofNat_of_zero_le h0
  have hi : i < xs.length := by omega
  have hx : xs[i]? = some xs[i] := by simp [hi]
  have hr := h5 i _ hx
  have hlen := rd_length h4
  unfold rdSlice at h4
  rw [if_neg (by omega)] at h4
  split at h4
  · rename_i j off
    unfold rdCells at h4
    split at h4
    · rename_i bs n e' wr hj
      split at h4
      · rename_i hbl
        cases h4
        refine ⟨.pointer (some ⟨j, off + i * e.sz, none⟩), _, xs[i], ?_, by simp [hi], hr, j, off + i * e.sz, bs, n, e', wr, rfl, hj, ?_, ?_⟩
        · simp only [p1Z, Int.toNat_natCast]
          rw [if_pos ⟨by omega, by omega⟩]
        · rw [e.len hr]
          have : (i + 1) * e.sz ≤ xs.length * e.sz := Nat.mul_le_mul_right _ hi
          rw [Nat.add_mul] at this
          omega
        · rw [e.len hr, ← List.drop_drop, List.drop_take, List.take_take]
          congr 1
          have : (i + 1) * e.sz ≤ xs.length * e.sz := Nat.mul_le_mul_right _ hi
          rw [Nat.add_mul] at this
          omega
      · cases h4
    · cases h4
  · cases h4
theorem Sl.int {k : IntKind} {H : Heap} {v : Value} {xs : List Int} (h : Sl (eInt k) H v xs) (k' : IntKind) {i : Int} (h0 : 0 ≤ i) (h1 : i < xs.length) {ti : TI} (ht : ti.agg = false) :
    ∃ p, p1Z 1 v (.int k' i) = some p ∧ qWZ ti p H = some (.int k (xs.getD i.toNat 0)) := by
  obtain ⟨p, cs, x, hp, hx, hr, ha⟩ := h.at_ k' h0 h1
  cases hr
  refine ⟨p, hp, ?_⟩
  rw [ha.load ht, List.getD_eq_getElem?_getD, hx]
  rfl
theorem Sl.bool {H : Heap} {v : Value} {xs : List Bool} (h : Sl eBool H v xs) (k' : IntKind) {i : Int} (h0 : 0 ≤ i) (h1 : i < xs.length) {ti : TI} (ht : ti.agg = false) :
    ∃ p, p1Z 1 v (.int k' i) = some p ∧ qWZ ti p H = some (.bool (xs.getD i.toNat false)) := by
  obtain ⟨p, cs, x, hp, hx, hr, ha⟩ := h.at_ k' h0 h1
  cases hr
  refine ⟨p, hp, ?_⟩
  rw [ha.load ht, List.getD_eq_getElem?_getD, hx]
  rfl
theorem Sl.slice {α : Type} {e : El α} {H : Heap} {v : Value} {xs : List (List α)} (h : Sl (qXZ e) H v xs) (k' : IntKind) {i : Int} (h0 : 0 ≤ i) (h1 : i < xs.length) {ti : TI} (ht : ti.agg = false) :
    ∃ p u, p1Z 1 v (.int k' i) = some p ∧ qWZ ti p H = some u ∧ Sl e H u (xs.getD i.toNat []) := by
  obtain ⟨p, cs, x, hp, hx, ⟨u, rfl, hr⟩, ha⟩ := h.at_ k' h0 h1
  refine ⟨p, u, hp, ha.load ht, ?_⟩
  rw [List.getD_eq_getElem?_getD, hx]
  exact hr
theorem Sl.nil {α : Type} (e : El α) (H : Heap) : Sl e H (.slice none 0 0) [] := ⟨none, 0, [], rfl, Nat.le_refl _, by simp, by simp [rdSlice], fun i x hx => by simp at hx⟩
end Go.Proofs.YtchhpagkdaaglaaDoor.SL
