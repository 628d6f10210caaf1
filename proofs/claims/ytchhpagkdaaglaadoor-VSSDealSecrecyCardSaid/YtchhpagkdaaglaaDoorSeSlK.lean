/- Part 11 of the proof of LawSe: SlK, one behind the other. -/
import Derived.Test.YtchhpagkdaaglaaDoorSeSlJ
set_option linter.unusedVariables false
set_option linter.unusedSimpArgs false
namespace Go.Proofs.YtchhpagkdaaglaaDoor.SL
open Go
section
variable {P : Program} {T : Types} {X : Externs} {nt : Nat}

theorem fieldParts_congr {s : TypeId} {ρ ρ' : Operand → Value} : ∀ (l : List (Nat × Operand)), (∀ q ∈ l, ρ q.2 = ρ' q.2) → fieldParts T s ρ l = fieldParts T s ρ' l
  | [], _ => rfl
  | q :: l, h => by
    simp only [fieldParts]
    rw [fieldParts_congr l (fun q hq => h q (by simp [hq])), h q (by simp)]
theorem partsOf_congr {size : Nat} {ρ ρ' : Operand → Value} (l : List (Nat × Operand)) (h : ∀ q ∈ l, ρ q.2 = ρ' q.2) : partsOf size ρ l = partsOf size ρ' l :=
  List.map_congr_left fun q hq => by rw [h q hq]
theorem opPure_congr {ρ ρ' : Operand → Value} {op : Op} (h : ∀ x ∈ op.operands, ρ x = ρ' x) : opPure T ρ op = opPure T ρ' op := by
  cases op <;> simp only [Op.operands] at h <;> (try rfl)
  case build t parts =>
    have hp : ∀ q ∈ parts.toList, ρ q.2 = ρ' q.2 := fun q hq => h q.2 (by simp; exact ⟨q.1, by simpa using hq⟩)
    simp only [opPure]
    congr 1
    funext ti
    cases ti.kind <;> simp only
    · have hps : ∀ size, partsOf size ρ parts.toList = partsOf size ρ' parts.toList := fun size => partsOf_congr _ hp
      simp only [hps]
    · rw [fieldParts_congr (ρ := ρ) (ρ' := ρ') _ hp]
  case makeFunc fn f c =>
    simp only [opPure]
    rw [Array.map_congr_left (xs := f) fun x hx => h x (by simp [hx]), Array.map_congr_left (xs := c) fun x hx => h x (by simp [hx])]
  case slice t x lo hi mx => cases lo <;> cases hi <;> cases mx <;> simp_all [opPure]
  case call c =>
    obtain ⟨callee, args, ts⟩ := c
    have ha : ∀ x ∈ args, ρ x = ρ' x := fun x hx => h x (by simp [Call.operands, hx])
    simp only [opPure]
    split
    · rename_i x t h2 h3
      have : ρ x = ρ' x := ha x (by rw [← Array.mem_toList_iff, h2]; simp)
      rw [this]
    · rename_i x y h2
      have h3 : ρ x = ρ' x := ha x (by rw [← Array.mem_toList_iff, h2]; simp)
      have h4 : ρ y = ρ' y := ha y (by rw [← Array.mem_toList_iff, h2]; simp)
      rw [h3, h4]
    · rename_i x y h2
      have h3 : ρ x = ρ' x := ha x (by rw [← Array.mem_toList_iff, h2]; simp)
      have h4 : ρ y = ρ' y := ha y (by rw [← Array.mem_toList_iff, h2]; simp)
      rw [h3, h4]
    · rfl
  all_goals (simp_all [opPure]; done)
theorem opW_congr {ρ ρ' : Operand → Value} {op : Op} (h : ∀ x ∈ op.operands, ρ x = ρ' x) (H : Heap) (k : Value → Heap → Prop) (p : List PanicEntry → Heap → Prop) : opW T X P ρ op H k p = opW T X P ρ' op H k p := by
  have hp := opPure_congr (T := T) h
  by_cases hc : cls op = 0
  · rw [opW_pure hc, opW_pure hc, hp]
  · cases op <;> simp only [cls, not_true_eq_false] at hc <;> simp only [Op.operands] at h
    case buildSlice t n parts =>
      have hq : ∀ q ∈ parts.toList, ρ q.2 = ρ' q.2 := fun q hq => h q.2 (by simp; exact ⟨q.1, by simpa using hq⟩)
      simp only [opW]
      congr 1
      funext e te
      rw [partsOf_congr (ρ := ρ) (ρ' := ρ') _ hq]
    case call c =>
      obtain ⟨callee, args, ts⟩ := c
      have ha : ∀ x ∈ args, ρ x = ρ' x := fun x hx => h x (by simp [Call.operands, hx])
      cases callee with
      | invoke r m => simp only [opW, hp]
      | value f =>
        have hf : ρ f = ρ' f := h f (by simp [Call.operands])
        have hm : args.toList.map ρ = args.toList.map ρ' := List.map_congr_left fun x hx => ha x (by simpa using hx)
        simp only [opW, hf, hm]
      | builtin b =>
        cases b <;> (try (simp only [opW, hp]; done))
        case append =>
          simp only [opW]
          split
          · rename_i s x t t' h2 h3
            have h4 : ρ s = ρ' s := ha s (by rw [← Array.mem_toList_iff, h2]; simp)
            have h5 : ρ x = ρ' x := ha x (by rw [← Array.mem_toList_iff, h2]; simp)
            rw [h4, h5]
          · rfl
        case copy =>
          simp only [opW]
          split
          · rename_i s x t t' h2 h3
            have h4 : ρ s = ρ' s := ha s (by rw [← Array.mem_toList_iff, h2]; simp)
            have h5 : ρ x = ρ' x := ha x (by rw [← Array.mem_toList_iff, h2]; simp)
            rw [h4, h5]
          · rfl
    all_goals (simp_all [opW]; done)

abbrev Watch := List (Nat × (Heap → Option Value) × Value)
def wCheck (m : Nat) : Watch → Heap → Prop → Prop
  | [], _, K => K
  | e :: W, H, K => bif m.testBit e.1 then wCheck m W H K else (e.2.1 H = some e.2.2 ∧ wCheck m W H K)
theorem wCheck_iff {m : Nat} {W : Watch} {H : Heap} {K : Prop} : wCheck m W H K ↔ (∀ e ∈ W, m.testBit e.1 = false → e.2.1 H = some e.2.2) ∧ K := by
  induction W with
  | nil => simp [wCheck]
  | cons e W ih =>
    simp only [wCheck]
    cases hb : m.testBit e.1 with
    | true => simp only [cond_true, ih, List.mem_cons, forall_eq_or_imp, hb, Bool.true_eq_false, false_implies, true_and]
    | false => simp only [cond_false, ih, List.mem_cons, forall_eq_or_imp, hb, true_implies, and_assoc]
def denL (T : Types) (X : Externs) (P : Program) (nt : Nat) (ops : Array Oper) (ms : List Nat) : List Nat → Watch → Env → Heap → (Env → Heap → Prop) → Prop
  | [], _, env, H, k => k env H
  | i :: rest, W, env, H, k => match ops[i]? with
    | none => False
    | some o => match cls o.op with
      | 1 => oV (rdOf T ops env o H) fun v => denL T X P nt ops ms rest ((i, rdOf T ops env o, v) :: W) (putE nt env o.dst v) H k
      | 3 => opGv T X P ops o env H (fun v H' => wCheck (ms.getD i 0) W H' (denL T X P nt ops ms rest W (putE nt env o.dst v) H' k)) noP
      | _ => opGv T X P ops o env H (fun v H' => denL T X P nt ops ms rest W (putE nt env o.dst v) H' k) noP

def stp (T : Types) (X : Externs) (P : Program) (ops : Array Oper) (o : Oper) (env : Env) : Stp := fun H k => opGv T X P ops o env H k noP

theorem evE_put {env : Env} {d : Option Nat} {v : Value} {x : Operand} (h : ∀ t, d = some t → x ≠ .tmp t) : evE (putE nt env d v) x = evE env x := by
  cases d with
  | none => rfl
  | some d =>
    cases x with
    | tmp t =>
      have hne : t ≠ d := fun e => h d rfl (by rw [e])
      simp only [evE, putE]
      cases Nat.blt d nt with
      | false => rfl
      | true =>
        simp only [cond_true, upd]
        have : Nat.beq t d = false := by
          cases hq : Nat.beq t d with
          | false => rfl
          | true => exact absurd (Nat.eq_of_beq_eq_true hq) hne
        rw [this]
        rfl
    | _ => rfl
theorem opGv_congr {ops : Array Oper} {o : Oper} {env : Env} {d : Option Nat} {v : Value} (h : ∀ t, d = some t → t ∉ o.looksAt ops) (H : Heap) (k : Value → Heap → Prop) (p : List PanicEntry → Heap → Prop) :
    opGv T X P ops o (putE nt env d v) H k p = opGv T X P ops o env H k p := by
  have hx : ∀ x ∈ o.op.operands, evE (putE nt env d v) x = evE env x := fun x hx => evE_put fun t ht he => h t ht (by
    subst he
    exact List.mem_append_left _ (List.mem_filterMap.2 ⟨.tmp t, by simpa using hx, rfl⟩))
  unfold opGv
  cases hg : o.guard with
  | none => simp only [opW_congr hx]
  | some q =>
    obtain ⟨j, want⟩ := q
    have hgv : guardV ops (putE nt env d v) j = guardV ops env j := by
      unfold guardV
      cases hd : (ops[j]?).bind (·.dst) with
      | none => rfl
      | some t =>
        have := evE_put (nt := nt) (env := env) (d := d) (v := v) (x := .tmp t) (fun t' ht' he => by
          cases he
          exact h t ht' (List.mem_append_right _ (by simp [hg, hd])))
        simpa [evE] using this
    simp only [hgv, opW_congr hx]
theorem rdOf_congr {ops : Array Oper} {o : Oper} {env : Env} {d : Option Nat} {v : Value} (h : ∀ t, d = some t → t ∉ o.looksAt ops) :
    rdOf T ops (putE nt env d v) o = rdOf T ops env o := by
  have hx : ∀ x ∈ o.op.operands, evE (putE nt env d v) x = evE env x := fun x hx => evE_put fun t ht he => h t ht (by
    subst he
    exact List.mem_append_left _ (List.mem_filterMap.2 ⟨.tmp t, by simpa using hx, rfl⟩))
  have hr : rdV T (evE (putE nt env d v)) o.op = rdV T (evE env) o.op := by
    funext H
    unfold rdV
    split
    · rename_i t a ho
      rw [hx a (by rw [ho]; simp [Op.operands])]
    · rfl
  funext H
  unfold rdOf
  cases hg : o.guard with
  | none => simp only [hr]
  | some q =>
    obtain ⟨j, want⟩ := q
    have hgv : guardV ops (putE nt env d v) j = guardV ops env j := by
      unfold guardV
      cases hd : (ops[j]?).bind (·.dst) with
      | none => rfl
      | some t =>
        have := evE_put (nt := nt) (env := env) (d := d) (v := v) (x := .tmp t) (fun t' ht' he => by
          cases he
          exact h t ht' (List.mem_append_right _ (by simp [hg, hd])))
        simpa [evE] using this
    simp only [hgv, hr]
theorem putE_comm {env : Env} {d e : Option Nat} {v u : Value} (h : ∀ t, d = some t → e ≠ some t) : putE nt (putE nt env d v) e u = putE nt (putE nt env e u) d v := by
  cases d with
  | none => rfl
  | some d =>
    cases e with
    | none => rfl
    | some e =>
      have hne : d ≠ e := fun he => h d rfl (by rw [he])
      simp only [putE]
      cases Nat.blt d nt <;> cases Nat.blt e nt <;> simp only [cond_true, cond_false]
      funext t
      simp only [upd]
      by_cases h1 : t = d
      · subst h1
        have h2 : Nat.beq t e = false := by
          cases hq : Nat.beq t e with
          | false => rfl
          | true => exact absurd (Nat.eq_of_beq_eq_true hq) hne
        rw [h2, Nat.beq_refl]
        rfl
      · have h2 : Nat.beq t d = false := by
          cases hq : Nat.beq t d with
          | false => rfl
          | true => exact absurd (Nat.eq_of_beq_eq_true hq) h1
        rw [h2]
        rfl
end
end Go.Proofs.YtchhpagkdaaglaaDoor.SL
