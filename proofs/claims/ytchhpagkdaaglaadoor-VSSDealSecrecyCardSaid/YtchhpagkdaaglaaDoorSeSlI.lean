/- Part 9 of the proof of LawSe: SlI, one behind the other. -/
import Derived.Test.YtchhpagkdaaglaaDoorSeSlH
set_option linter.unusedVariables false
set_option linter.unusedSimpArgs false
namespace Go.Proofs.YtchhpagkdaaglaaDoor.SL
open Go

def Real (H : Heap) : Prop := ∃ w, Sat H w
theorem Real.fresh {H : Heap} (h : Real H) : ∃ i, H i = none := by
  obtain ⟨w, hs⟩ := h
  exact ⟨w.heap.size, hs.fresh (Nat.le_refl _)⟩
theorem Real.ins {H : Heap} (h : Real H) (i : Nat) (cs : List Value) (n : Nat) (e : TypeId) (hn : cs.length ≤ n) : Real (hins H i (.cells cs n e true)) := by
  obtain ⟨w, hs⟩ := h
  let o : Obj := .cells (cs ++ List.replicate (n - cs.length) undef).toArray e
  have hok : (Blk.cells cs n e true).ok o := by
    refine ⟨rfl, ?_, ?_, fun _ => rfl⟩
    · simp; omega
    · simp
  -- a world that is long enough, with the block at i
  let l : List Obj := w.heap.toList ++ List.replicate (i + 1 - w.heap.size) (.map #[] 0)
  refine ⟨{ w with heap := (l.set i o).toArray }, fun j b hb => ?_⟩
  by_cases e1 : j = i
  · subst e1
    rw [hins_self] at hb
    cases hb
    refine ⟨o, ?_, hok⟩
    have hlen : j < l.length := by simp only [l, List.length_append, List.length_replicate, Array.length_toList]; omega
    simp [hlen]
  · rw [qOZ _ _ e1] at hb
    obtain ⟨o', ho', hk⟩ := hs j b hb
    have hlt := hs.lt hb
    refine ⟨o', ?_, hk⟩
    simp only [List.getElem?_toArray]
    rw [List.getElem?_set_ne (Ne.symm e1)]
    simp only [l]
    rw [List.getElem?_append_left (by simpa using hlt)]
    simpa using ho'
theorem hins_comm (H : Heap) {i j : Nat} (b c : Blk) (h : i ≠ j) : hins (hins H i b) j c = hins (hins H j c) i b := by
  funext x
  unfold hins
  by_cases h1 : x = j
  · subst h1
    rw [if_pos rfl, if_neg (Ne.symm h), if_pos rfl]
  · rw [if_neg h1]
    by_cases h2 : x = i
    · rw [if_pos h2, if_pos h2]
    · rw [if_neg h2, if_neg h2, if_neg h1]

abbrev Stp := Heap → (Value → Heap → Prop) → Prop
def Mono (S : Stp) : Prop := ∀ H k k', Real H → S H k → (∀ v H', Real H' → k v H' → k' v H') → S H k'
def Ext (S : Stp) : Prop := ∀ H k, Real H → S H k → ∃ v H', Real H' ∧ k v H'
def IsPure (S : Stp) (c : Option Value) : Prop := ∀ H k, S H k ↔ oV c fun v => k v H
def IsRead (S : Stp) (r : Heap → Option Value) : Prop := ∀ H k, S H k ↔ oV (r H) fun v => k v H
def MonoR (r : Heap → Option Value) : Prop := ∀ H G v, Le H G → r H = some v → r G = some v
def IsAlloc (S : Stp) : Prop := (∃ c, IsPure S c) ∨ ∃ (c : Prop) (mk : Nat → Value) (cs : List Value) (n : Nat) (e : TypeId), (c → cs.length ≤ n) ∧ ∀ H k, S H k ↔ c ∧ ∀ i, H i = none → k (mk i) (hins H i (.cells cs n e true))
theorem oV_mono {c : Option Value} {k k' : Value → Prop} (h : oV c k) (hk : ∀ v, k v → k' v) : oV c k' := by
  cases c with
  | none => exact h
  | some v => exact hk v h
theorem IsPure.mono {S : Stp} {c : Option Value} (h : IsPure S c) : Mono S := fun H k k' hr hS hk => (h H k').2 (oV_mono ((h H k).1 hS) fun v => hk v H hr)
theorem IsPure.ext {S : Stp} {c : Option Value} (h : IsPure S c) : Ext S := fun H k hr hS => by
  obtain ⟨v, _, hk⟩ := oV_elim ((h H k).1 hS)
  exact ⟨v, H, hr, hk⟩
theorem IsRead.mono {S : Stp} {r : Heap → Option Value} (h : IsRead S r) : Mono S := fun H k k' hr hS hk => (h H k').2 (oV_mono ((h H k).1 hS) fun v => hk v H hr)
theorem IsRead.ext {S : Stp} {r : Heap → Option Value} (h : IsRead S r) : Ext S := fun H k hr hS => by
  obtain ⟨v, _, hk⟩ := oV_elim ((h H k).1 hS)
  exact ⟨v, H, hr, hk⟩
theorem IsAlloc.mono {S : Stp} (h : IsAlloc S) : Mono S := by
  rcases h with ⟨c, h⟩ | ⟨c, mk, cs, n, e, hn, h⟩
  · exact h.mono
  · exact fun H k k' hr hS hk => (h H k').2 ⟨((h H k).1 hS).1, fun i hi => hk _ _ (hr.ins i cs n e (hn ((h H k).1 hS).1)) (((h H k).1 hS).2 i hi)⟩
theorem IsAlloc.ext {S : Stp} (h : IsAlloc S) : Ext S := by
  rcases h with ⟨c, h⟩ | ⟨c, mk, cs, n, e, hn, h⟩
  · exact h.ext
  · intro H k hr hS
    obtain ⟨i, hi⟩ := hr.fresh
    obtain ⟨h1, h2⟩ := (h H k).1 hS
    exact ⟨_, _, hr.ins i cs n e (hn h1), h2 i hi⟩

section
variable {P : Program} {T : Types} {X : Externs} {nt : Nat}

def cls : Op → Nat
  | .load _ _ => 1
  | .alloc _ => 2
  | .box _ _ => 2
  | .buildSlice _ _ _ => 2
  | .makeSlice _ _ _ => 2
  | .store _ _ _ => 3
  | .call c => match c.callee with
    | .builtin .append => 3
    | .builtin .copy => 3
    | .value _ => 3
    | _ => 0
  | _ => 0
def noP : List PanicEntry → Heap → Prop := fun _ _ => False
def rdV (T : Types) (ρ : Operand → Value) (o : Op) (H : Heap) : Option Value := match o with
  | .load t a => (T t).bind fun ti => qWZ ti (ρ a) H
  | _ => none
def gV (v : Value) (want : Bool) (a b : Option Value) : Option Value := match v with
  | .bool c => bif c == want then a else b
  | _ => b
def rdOf (T : Types) (ops : Array Oper) (env : Env) (o : Oper) (H : Heap) : Option Value := match o.guard with
  | none => rdV T (evE env) o.op H
  | some (j, want) => gV (guardV ops env j) want (rdV T (evE env) o.op H) (some undef)

theorem gK_oV {v : Value} {want : Bool} {c : Option Value} {k : Value → Prop} : gK v want (oV c k) (k undef) ↔ oV (gV v want c (some undef)) k := by
  unfold gK gV
  cases v <;> simp only [oV_some]
  rename_i b
  cases b <;> cases want <;> simp

theorem opW_pure {op : Op} (hc : cls op = 0) (ρ : Operand → Value) (H : Heap) (k : Value → Heap → Prop) (p : List PanicEntry → Heap → Prop) : opW T X P ρ op H k p = oV (opPure T ρ op) fun v => k v H := by
  cases op <;> (try rfl) <;> simp only [cls] at hc <;> (try (cases hc; done))
  rename_i c
  obtain ⟨callee, args, ts⟩ := c
  cases callee <;> (try rfl) <;> simp only at hc <;> (try (cases hc; done))
  rename_i b
  cases b <;> (try rfl) <;> simp only at hc <;> cases hc
theorem step_pure {ops : Array Oper} {o : Oper} (hc : cls o.op = 0) (env : Env) : ∃ c, IsPure (fun H k => opGv T X P ops o env H k noP) c := by
  unfold opGv
  cases o.guard with
  | none => exact ⟨opPure T (evE env) o.op, fun H k => by simp only [opW_pure hc]⟩
  | some q =>
    obtain ⟨j, want⟩ := q
    refine ⟨gV (guardV ops env j) want (opPure T (evE env) o.op) (some undef), fun H k => ?_⟩
    simp only [opW_pure hc]
    exact gK_oV (k := fun v => k v H)
theorem step_read {ops : Array Oper} {o : Oper} (hc : cls o.op = 1) (env : Env) : IsRead (fun H k => opGv T X P ops o env H k noP) (rdOf T ops env o) := by
  have h0 : ∀ H k, opW T X P (evE env) o.op H k noP = oV (rdV T (evE env) o.op H) fun v => k v H := by
    obtain ⟨dst, op, ty, pos, after, guard⟩ := o
    simp only at hc ⊢
    cases op <;> simp only [cls] at hc <;> (try (cases hc; done)) <;> (try (exact fun H k => rfl))
    rename_i c
    obtain ⟨callee, args, ts⟩ := c
    cases callee <;> simp only at hc <;> (try (cases hc; done))
    rename_i b
    cases b <;> simp only at hc <;> cases hc
  intro H k
  unfold opGv rdOf
  cases o.guard with
  | none => simp only [h0]
  | some q =>
    obtain ⟨j, want⟩ := q
    simp only [h0]
    exact gK_oV (k := fun v => k v H)
theorem qKZ {ti : TI} {x : Value} {H G : Heap} {v : Value} (hl : Le H G) (h : qWZ ti x H = some v) : qWZ ti x G = some v := by
  unfold qWZ at h ⊢
  split at h
  · split at h
    · rename_i hi
      rw [hl _ _ hi]
      exact h
    · cases h
  · cases h
theorem rdV_mono {ρ : Operand → Value} {o : Op} : MonoR (rdV T ρ o) := by
  intro H G v hl h
  unfold rdV at h ⊢
  split at h
  · obtain ⟨ti, hti, h⟩ := Option.bind_eq_some_iff.1 h
    simp only [hti, Option.bind_some]
    exact qKZ hl h
  · cases h
theorem rdOf_mono {ops : Array Oper} {env : Env} {o : Oper} : MonoR (rdOf T ops env o) := by
  intro H G v hl h
  unfold rdOf at h ⊢
  cases hg : o.guard with
  | none => rw [hg] at h; exact rdV_mono _ _ _ hl h
  | some q =>
    obtain ⟨j, want⟩ := q
    rw [hg] at h
    simp only at h ⊢
    unfold gV at h ⊢
    cases hv : guardV ops env j <;> rw [hv] at h <;> simp only at h ⊢ <;> try exact h
    rename_i b
    cases hb : (b == want) <;> rw [hb] at h <;> simp only [cond_true, cond_false] at h ⊢
    · exact h
    · exact rdV_mono _ _ _ hl h
theorem fillL_length : ∀ (ps : List ((Nat × Nat) × Value)) (l l' : List Value), fillL l ps = some l' → l'.length = l.length := by
  intro ps
  induction ps with
  | nil => intro l l' h; simp only [fillL] at h; cases h; rfl
  | cons q ps ih =>
    intro l l' h
    simp only [fillL] at h
    split at h
    · rename_i hb
      rw [ih _ _ h, length_splice _ _ _ (by omega)]
      simp only [Array.length_toList]
      omega
    · cases h
theorem step_alloc {ops : Array Oper} {o : Oper} (hc : cls o.op = 2) (env : Env) : IsAlloc (fun H k => opGv T X P ops o env H k noP) := by
  have h0 : ∃ (c : Prop) (mk : Nat → Value) (cs : List Value) (n : Nat) (e : TypeId), (c → cs.length ≤ n) ∧ ∀ H k, opW T X P (evE env) o.op H k noP ↔ c ∧ ∀ i, H i = none → k (mk i) (hins H i (.cells cs n e true)) := by
    obtain ⟨dst, op, ty, pos, after, guard⟩ := o
    simp only at hc ⊢
    cases op <;> simp only [cls] at hc <;> (try (cases hc; done))
    case alloc e =>
      cases hT : T e with
      | none => exact ⟨False, fun _ => undef, [], 0, 0, fun h => h.elim, fun H k => by simp [opW, hT, oT]⟩
      | some te => exact ⟨True, qTZ, te.zero.cells.toList, _, e, fun _ => Nat.le_refl _, fun H k => by simp [opW, hT, oT, oNew]⟩
    case box e x => exact ⟨True, qTZ, (evE env x).cells.toList, _, e, fun _ => Nat.le_refl _, fun H k => by simp [opW, oNew]⟩
    case buildSlice t len parts =>
      cases hT : elemOfT T t with
      | none => exact ⟨False, fun _ => undef, [], 0, 0, fun h => h.elim, fun H k => by simp [opW, hT, oT]⟩
      | some q =>
        obtain ⟨e, te⟩ := q
        by_cases hb : te.zero.cells.size = te.size ∧ len * te.size ≤ 16777216
        · cases hf : fillL (zerosL te len) (partsOf te.size (evE env) parts.toList) with
          | none => exact ⟨False, fun _ => undef, [], 0, 0, fun h => h.elim, fun H k => by simp [opW, hT, oT, hb, p3Z, hf]⟩
          | some cs =>
            refine ⟨True, fun i => .slice (some ⟨i, 0, none⟩) len len, cs, len * te.size, e, fun _ => ?_, fun H k => by simp [opW, hT, oT, hb, p3Z, hf, oNew]⟩
            rw [fillL_length _ _ _ hf]
            simp [zerosL, hb.1]
        · exact ⟨False, fun _ => undef, [], 0, 0, fun h => h.elim, fun H k => by simp only [opW, hT, oT, if_neg hb, false_and]⟩
    case makeSlice t l c =>
      cases hT : elemOfT T t with
      | none => exact ⟨False, fun _ => undef, [], 0, 0, fun h => h.elim, fun H k => by simp [opW, hT, oT]⟩
      | some q =>
        obtain ⟨e, te⟩ := q
        by_cases hb : te.zero.cells.size = te.size
        · have hbad : (∀ H (k : Value → Heap → Prop), ¬ oMake te e (evE env l) (evE env c) H k) → ∃ (c' : Prop) (mk : Nat → Value) (cs : List Value) (n : Nat) (e' : TypeId), (c' → cs.length ≤ n) ∧ ∀ H k, opW T X P (evE env) (.makeSlice t l c) H k noP ↔ c' ∧ ∀ i, H i = none → k (mk i) (hins H i (.cells cs n e' true)) :=
            fun hno => ⟨False, fun _ => undef, [], 0, 0, fun h => h.elim, fun H k => ⟨fun h => by simp only [opW, hT, oT, if_pos hb] at h; exact (hno _ _ h).elim, fun h => h.1.elim⟩⟩
          cases hl : evE env l <;> cases hc' : evE env c <;> (try (refine hbad fun H k h => ?_; simp [oMake, hl, hc'] at h; done))
          rename_i kl l' kc c'
          refine ⟨0 ≤ l' ∧ l' ≤ c' ∧ c' ≤ 281474976710656 ∧ te.bytes * c' ≤ 281474976710656, fun i => .slice (some ⟨i, 0, none⟩) l'.toNat c'.toNat, zerosL te c'.toNat, c'.toNat * te.size, e, fun _ => ?_, fun H k => by simp [opW, hT, oT, hb, oMake, hl, hc', oNew]⟩
          simp [zerosL, hb]
        · exact ⟨False, fun _ => undef, [], 0, 0, fun h => h.elim, fun H k => by simp only [opW, hT, oT, if_neg hb, false_and]⟩
    case call c =>
      obtain ⟨callee, args, ts⟩ := c
      cases callee <;> simp only at hc <;> (try (cases hc; done))
      rename_i b
      cases b <;> simp only at hc <;> cases hc
  obtain ⟨c, mk, cs, n, e, hn, h0⟩ := h0
  unfold opGv
  cases o.guard with
  | none => exact .inr ⟨c, mk, cs, n, e, hn, fun H k => h0 H k⟩
  | some q =>
    obtain ⟨j, want⟩ := q
    show IsAlloc fun H k => gK (guardV ops env j) want (opW T X P (evE env) o.op H k noP) (k undef H)
    cases guardV ops env j with
    | bool b =>
      by_cases hb : b = want
      · refine .inr ⟨c, mk, cs, n, e, hn, fun H k => ?_⟩
        simp only [gK, hb, true_implies, ne_eq, not_true_eq_false, false_implies, and_true]
        exact h0 H k
      · refine .inl ⟨some undef, fun H k => ?_⟩
        simp [gK, hb]
    | _ => exact .inl ⟨some undef, fun H k => by simp [gK]⟩
end
end Go.Proofs.YtchhpagkdaaglaaDoor.SL
