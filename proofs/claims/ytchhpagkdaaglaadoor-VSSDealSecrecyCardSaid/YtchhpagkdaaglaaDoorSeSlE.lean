/- Part 5 of the proof of LawSe: SlE, one behind the other. -/
import Derived.Test.YtchhpagkdaaglaaDoorSeSlD
set_option linter.unusedVariables false
set_option linter.unusedSimpArgs false
namespace Go.Proofs.YtchhpagkdaaglaaDoor.SL
open Go

abbrev Env := Nat → Value
def upd (env : Env) (d : Nat) (v : Value) : Env := fun t => bif Nat.beq t d then v else env t
def putE (nt : Nat) (env : Env) (d : Option Nat) (v : Value) : Env := match d with
  | some d => bif Nat.blt d nt then upd env d v else env
  | none => env
def evE (env : Env) : Operand → Value
  | .tmp t => env t
  | .const v => v
  | .global g => .pointer (some ⟨g, 0, none⟩)
  | .func f => .func (.func f) #[] #[]
structure EnvOk (nt : Nat) (env : Env) (a : Act) : Prop where
  size : a.tmps.size = nt
  defers : a.defers = []
  get : ∀ t, a.tmps.getD t undef = env t
theorem EnvOk.eval {nt : Nat} {env : Env} {a : Act} (h : EnvOk nt env a) : a.eval = evE env := by
  funext x
  cases x <;> simp only [Act.eval, evE]
  exact h.get _
theorem EnvOk.put {nt : Nat} {env : Env} {a : Act} (h : EnvOk nt env a) (d : Option Nat) (v : Value) : EnvOk nt (putE nt env d v) (a.put d v) := by
  cases d with
  | none => exact h
  | some d =>
    refine ⟨by simpa [Act.put] using h.size, h.defers, fun t => ?_⟩
    simp only [putE, Act.put]
    by_cases hd : d < nt
    · have hb : Nat.blt d nt = true := by simp [Nat.blt, hd]; omega
      rw [hb]
      simp only [cond_true, upd]
      by_cases ht : t = d
      · subst ht
        have : Nat.beq t t = true := Nat.beq_refl t
        rw [this]
        simp [h.size, hd]
      · have : Nat.beq t d = false := by
          cases hq : Nat.beq t d with
          | false => rfl
          | true => exact absurd (Nat.eq_of_beq_eq_true hq) ht
        rw [this]
        simp only [cond_false]
        rw [← h.get t]
        simp [Array.getElem?_setIfInBounds_ne (Ne.symm ht)]
    · have hb : Nat.blt d nt = false := by
        cases hq : Nat.blt d nt with
        | false => rfl
        | true => simp [Nat.blt] at hq; omega
      rw [hb]
      simp only [cond_false]
      rw [← h.get t]
      have : a.tmps.setIfInBounds d v = a.tmps := by
        apply Array.ext
        · simp
        · intro i h1 h2
          rw [Array.getElem_setIfInBounds]
          have hz := h.size
          simp only [Array.size_setIfInBounds] at h1
          rw [if_neg (by omega)]
      rw [this]

def endK (k : Value → Heap → Prop) (p : List PanicEntry → Heap → Prop) : Ending → Heap → Prop
  | .returned v, H => k v H
  | .panicked c, H => p c H
  | .outgrown, _ => False
def qVZ (P : Program) (f : FuncId) (args : List Value) (H : Heap) (Q : Ending → Heap → Prop) : Prop :=
  (∀ a w, (callFunc f a).run P w = .ok (.enter f a) w) ∧
  ∀ w, Sat H w → Calls P f args.toArray w fun e w' => ∃ H', Sat H' w' ∧ Keeps H w H' w' ∧ Q e H'
theorem qVZ.mono {P : Program} {f : FuncId} {args : List Value} {H : Heap} {Q Q' : Ending → Heap → Prop} (h : qVZ P f args H Q) (hq : ∀ e H', Q e H' → Q' e H') : qVZ P f args H Q' :=
  ⟨h.1, fun w hs => (h.2 w hs).mono fun e w' ⟨H', h1, h2, h3⟩ => ⟨H', h1, h2, hq _ _ h3⟩⟩
abbrev Externs := FuncId → Option (List Value → Option Value)
def XOk (P : Program) (X : Externs) : Prop := ∀ f g args v w, X f = some g → g args = some v → (callFunc f args.toArray).run P w = .ok (.value v) w
def oCall (X : Externs) (P : Program) (f : Value) (args : List Value) (H : Heap) (k : Value → Heap → Prop) (p : List PanicEntry → Heap → Prop) : Prop := match f with
  | .func (.func fid) first cap =>
    match X fid with
    | some g => oV (g (first.toList ++ args ++ cap.toList)) fun v => k v H
    | none => qVZ P fid (first.toList ++ args ++ cap.toList) H (endK k p)
  | _ => False

def fieldOf (T : Types) (s : TypeId) (f : Nat) : Option (Nat × TI) :=
  (T s).bind fun ti => match ti.kind with
  | .struct fs => (fs[f]?).bind fun q => (T q.2).map fun tf => (q.1, tf)
  | _ => none
def elemOfT (T : Types) (t : TypeId) : Option (TypeId × TI) := (T t).bind fun ti => match ti.kind with
  | .slice e => (T e).map fun te => (e, te)
  | _ => none
def partsOf (size : Nat) (ρ : Operand → Value) (parts : List (Nat × Operand)) : List ((Nat × Nat) × Value) := parts.map fun p => ((p.1 * size, size), ρ p.2)
def fieldParts (T : Types) (s : TypeId) (ρ : Operand → Value) : List (Nat × Operand) → Option (List ((Nat × Nat) × Value))
  | [] => some []
  | p :: rest => (fieldOf T s p.1).bind fun q => (fieldParts T s ρ rest).map fun r => ((q.1, q.2.size), ρ p.2) :: r
def opPure (T : Types) (ρ : Operand → Value) : Op → Option Value
  | .move x => some (ρ x)
  | .assign x => some (ρ x)
  | .pick c a b => pAZ (ρ c) (ρ a) (ρ b)
  | .nilCheck x => vNil (ρ x)
  | .binOp op xt x y _ => (T xt).bind fun ti => vBinT ti op (ρ x) (ρ y)
  | .unOp op _ x => vUn op (ρ x)
  | .convert s d x => (T s).bind fun _ => (T d).bind fun td => vConv td.kind (ρ x)
  | .makeFunc fn f c => some (.func fn (f.map ρ) (c.map ρ))
  | .fieldAddr s x f => (fieldOf T s f).bind fun q => if q.2.size = 0 then none else qYZ q.1 (ρ x)
  | .field s x f => (fieldOf T s f).bind fun q => vPart q.2.agg q.1 q.2.size (ρ x)
  | .indexAddr t x ix => (T t).bind fun ti => match ti.kind with
    | .slice e => (T e).bind fun te => p1Z te.size (ρ x) (ρ ix)
    | .array n e => (T e).bind fun te => vIdxA n te.size (ρ x) (ρ ix)
    | _ => none
  | .index t x ix => (T t).bind fun ti => match ti.kind with
    | .array n e => (T e).bind fun te => vIndexA te.agg n te.size (ρ x) (ρ ix)
    | .string => vIndexStr (ρ x) (ρ ix)
    | _ => none
  | .slice t x lo hi mx => (elemOfT T t).bind fun q => vSlice q.2.size (ρ x) (lo.map ρ) (hi.map ρ) (mx.map ρ)
  | .extract x i => p0Z (ρ x) i
  | .build t parts => (T t).bind fun ti => match ti.kind with
    | .struct fs => if (fs.all fun q => (T q.2).isSome) = true then (fieldParts T t ρ parts.toList).bind fun ps => (fillL ti.zero.cells.toList ps).map fun cs => .agg cs.toArray else none
    | .array _ e => (T e).bind fun te => (fillL ti.zero.cells.toList (partsOf te.size ρ parts.toList)).map fun cs => .agg cs.toArray
    | _ => none
  | .call c => match c.callee, c.args.toList, c.argTypes.toList with
    | .builtin .len, [x], [t] => (T t).bind fun ti => match ti.kind with
      | .slice _ => vLen (ρ x)
      | .string => vLenStr (ρ x)
      | _ => none
    | .builtin .max, [x, y], _ => vMax (ρ x) (ρ y)
    | .builtin .min, [x, y], _ => vMin (ρ x) (ρ y)
    | _, _, _ => none
  | _ => none
def qTZ (i : Nat) : Value := .pointer (some ⟨i, 0, none⟩)
def oMake (te : TI) (e : TypeId) (l c : Value) (H : Heap) (k : Value → Heap → Prop) : Prop := match l, c with
  | .int _ l, .int _ c =>
    (0 ≤ l ∧ l ≤ c ∧ c ≤ 281474976710656 ∧ te.bytes * c ≤ 281474976710656) ∧ oNew (zerosL te c.toNat) (c.toNat * te.size) e H fun i H' => k (.slice (some ⟨i, 0, none⟩) l.toNat c.toNat) H'
  | _, _ => False
def p3Z (te : TI) (e : TypeId) (len : Nat) (parts : List ((Nat × Nat) × Value)) (H : Heap) (k : Value → Heap → Prop) : Prop :=
  match fillL (zerosL te len) parts with
  | some cs => oNew cs (len * te.size) e H fun i H' => k (.slice (some ⟨i, 0, none⟩) len len) H'
  | none => False
def oT (o : Option (TypeId × TI)) (k : TypeId → TI → Prop) : Prop := match o with
  | some q => k q.1 q.2
  | none => False
def opW (T : Types) (X : Externs) (P : Program) (ρ : Operand → Value) (o : Op) (H : Heap) (k : Value → Heap → Prop) (p : List PanicEntry → Heap → Prop) : Prop := match o with
  | .load t a => oV ((T t).bind fun ti => qWZ ti (ρ a) H) fun v => k v H
  | .store t a x => oHeap ((T t).bind fun ti => p2Z ti (ρ a) (ρ x) H) fun H' => k undef H'
  | .alloc e => oT ((T e).map fun te => (e, te)) fun e te => oNew te.zero.cells.toList te.zero.cells.toList.length e H fun i H' => k (qTZ i) H'
  | .box e x => oNew (ρ x).cells.toList (ρ x).cells.toList.length e H fun i H' => k (qTZ i) H'
  | .buildSlice t len parts => oT (elemOfT T t) fun e te => if te.zero.cells.size = te.size ∧ len * te.size ≤ 16777216 then p3Z te e len (partsOf te.size ρ parts.toList) H k else False
  | .makeSlice t l c => oT (elemOfT T t) fun e te => if te.zero.cells.size = te.size then oMake te e (ρ l) (ρ c) H k else False
  | .call c => match c.callee with
    | .builtin .append => (match c.args.toList, c.argTypes.toList with
      | [s, x], [t, t'] => if t = t' then oT (elemOfT T t) fun e te => if te.zero.cells.size = te.size then p4Z te e (ρ s) (ρ x) H k else False else False
      | _, _ => False)
    | .builtin .copy => (match c.args.toList, c.argTypes.toList with
      | [s, x], [t, _] => oT (elemOfT T t) fun e te => oCopy te (ρ s) (ρ x) H k
      | _, _ => False)
    | .value f => oCall X P (ρ f) (c.args.toList.map ρ) H k p
    | _ => oV (opPure T ρ (.call c)) fun v => k v H
  | o => oV (opPure T ρ o) fun v => k v H

section
variable {P : Program} {T : Types} {X : Externs} {w : World} {H : Heap}

theorem fieldOf_ok (hT : TOk P T) {s : TypeId} {f fo : Nat} {tf : TI} (h : fieldOf T s f = some (fo, tf)) :
    ∃ ti fs ft, TIok P s ti ∧ ti.kind = .struct fs ∧ fs[f]? = some (fo, ft) ∧ TIok P ft tf := by
  unfold fieldOf at h
  obtain ⟨ti, hti, h⟩ := Option.bind_eq_some_iff.1 h
  split at h
  · rename_i fs hk
    obtain ⟨q, hq, h⟩ := Option.bind_eq_some_iff.1 h
    obtain ⟨tf', htf, h⟩ := Option.map_eq_some_iff.1 h
    obtain ⟨fo', ft⟩ := q
    simp only [Prod.mk.injEq] at h
    obtain ⟨rfl, rfl⟩ := h
    exact ⟨ti, fs, ft, hT s ti hti, hk, hq, hT ft tf' htf⟩
  · cases h
theorem elemOfT_ok (hT : TOk P T) {t e : TypeId} {te : TI} (h : elemOfT T t = some (e, te)) : ∃ ti, TIok P t ti ∧ ti.kind = .slice e ∧ TIok P e te := by
  unfold elemOfT at h
  obtain ⟨ti, hti, h⟩ := Option.bind_eq_some_iff.1 h
  split at h
  · rename_i e' hk
    obtain ⟨te', hte, h⟩ := Option.map_eq_some_iff.1 h
    simp only [Prod.mk.injEq] at h
    obtain ⟨rfl, rfl⟩ := h
    exact ⟨ti, hT t ti hti, hk, hT _ _ hte⟩
  · cases h
theorem run_mapM {α β : Type} (g : α → Sem β) (h : α → β) : ∀ (l : List α), (∀ x ∈ l, (g x).run P w = .ok (h x) w) → (l.mapM g).run P w = .ok (l.map h) w
  | [], _ => by simp
  | x :: l, hx => by
    have h0 := hx x (by simp)
    have ih := run_mapM g h l (fun y hy => hx y (by simp [hy]))
    simp only [List.mapM_cons, Sem.run_bind, h0, Result.andThen_ok, ih, Sem.run_pure, List.map_cons]
end
end Go.Proofs.YtchhpagkdaaglaaDoor.SL
