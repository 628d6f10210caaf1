/- Part 14 of the proof of LawSe: SlN, one behind the other. -/
import Derived.Test.YtchhpagkdaaglaaDoorSeSlM
set_option linter.unusedVariables false
set_option linter.unusedSimpArgs false
namespace Go.Proofs.YtchhpagkdaaglaaDoor.SL
open Go

def letK (k : Value → Heap → Prop) (f : (Value → Heap → Prop) → Prop) : Prop := f k
def opWd (T : Types) (X : Externs) (P : Program) (ρ : Operand → Value) (o : Op) (H : Heap) (k : Value → Heap → Prop) (p : List PanicEntry → Heap → Prop) : Prop := match o with
  | .move x => k (ρ x) H
  | .assign x => k (ρ x) H
  | .makeFunc fn f c => k (.func fn (f.map ρ) (c.map ρ)) H
  | o => opW T X P ρ o H k p
def opGd (T : Types) (X : Externs) (P : Program) (ops : Array Oper) (o : Oper) (env : Env) (H : Heap) (k : Value → Heap → Prop) (p : List PanicEntry → Heap → Prop) : Prop := match o.guard with
  | none => opWd T X P (evE env) o.op H k p
  | some (j, want) => match cls o.op with
    | 0 => oV (gV (guardV ops env j) want (opPure T (evE env) o.op) (some undef)) fun v => k v H
    | 1 => oV (gV (guardV ops env j) want (rdV T (evE env) o.op H) (some undef)) fun v => k v H
    | _ => letK k fun k => gK (guardV ops env j) want (opW T X P (evE env) o.op H k p) (k undef H)
def denIdx2 (T : Types) (X : Externs) (P : Program) (nt : Nat) (ops : Array Oper) : List Nat → Env → Heap → (Env → Heap → Prop) → (List PanicEntry → Env → Heap → Prop) → Prop
  | [], env, H, k, _ => k env H
  | i :: rest, env, H, k, p => match ops[i]? with
    | some o => opGd T X P ops o env H (fun v H' => denIdx2 T X P nt ops rest (putE nt env o.dst v) H' k p) (fun c H' => p c env H')
    | none => False
def denL2 (T : Types) (X : Externs) (P : Program) (nt : Nat) (ops : Array Oper) (ms : List Nat) : List Nat → Watch → Env → Heap → (Env → Heap → Prop) → Prop
  | [], _, env, H, k => k env H
  | i :: rest, W, env, H, k => match ops[i]? with
    | none => False
    | some o => match cls o.op with
      | 1 => oV (rdOf T ops env o H) fun v => denL2 T X P nt ops ms rest ((i, rdOf T ops env o, v) :: W) (putE nt env o.dst v) H k
      | 3 => opGd T X P ops o env H (fun v H' => wCheck (ms.getD i 0) W H' (denL2 T X P nt ops ms rest W (putE nt env o.dst v) H' k)) noP
      | _ => opGd T X P ops o env H (fun v H' => denL2 T X P nt ops ms rest W (putE nt env o.dst v) H' k) noP
section
variable {P : Program} {T : Types} {X : Externs} {nt : Nat} {ops : Array Oper}
theorem opWd_eq (ρ : Operand → Value) (o : Op) (H : Heap) (k : Value → Heap → Prop) (p : List PanicEntry → Heap → Prop) : opWd T X P ρ o H k p = opW T X P ρ o H k p := by cases o <;> rfl
theorem opW_read {op : Op} (hc : cls op = 1) (ρ : Operand → Value) (H : Heap) (k : Value → Heap → Prop) (p : List PanicEntry → Heap → Prop) : opW T X P ρ op H k p = oV (rdV T ρ op H) fun v => k v H := by
  cases op <;> (try rfl) <;> simp only [cls] at hc <;> (try (cases hc; done))
  rename_i c
  obtain ⟨callee, args, ts⟩ := c
  cases callee <;> simp only at hc <;> (try (cases hc; done))
  rename_i b
  cases b <;> simp only at hc <;> cases hc
theorem opGd_eq (o : Oper) (env : Env) (H : Heap) (k : Value → Heap → Prop) (p : List PanicEntry → Heap → Prop) : opGd T X P ops o env H k p = opGv T X P ops o env H k p := by
  unfold opGd opGv
  cases o.guard with
  | none => exact opWd_eq ..
  | some q =>
    obtain ⟨j, want⟩ := q
    rcases cls_lt o.op with h | h | h | h
    · simp only [h, opW_pure h]
      exact (propext gK_oV).symm
    · simp only [h, opW_read h]
      exact (propext gK_oV).symm
    · simp only [h, letK]
    · simp only [h, letK]
theorem denIdx2_eq : ∀ (is : List Nat) (env : Env) (H : Heap) (k : Env → Heap → Prop) (p : List PanicEntry → Env → Heap → Prop), denIdx2 T X P nt ops is env H k p = denIdx T X P nt ops is env H k p
  | [], _, _, _, _ => rfl
  | i :: rest, env, H, k, p => by
    simp only [denIdx2, denIdx, opGd_eq, denIdx2_eq rest]
    cases ops[i]? <;> rfl
theorem denL2_eq {ms : List Nat} {k : Env → Heap → Prop} : ∀ (is : List Nat) (W : Watch) (env : Env) (H : Heap), denL2 T X P nt ops ms is W env H k = denL T X P nt ops ms is W env H k
  | [], _, _, _ => rfl
  | i :: rest, W, env, H => by
    simp only [denL2, denL, opGd_eq, denL2_eq rest]
    cases ops[i]? with
    | none => rfl
    | some o => rcases cls_lt o.op with h | h | h | h <;> simp only [h]
end

def den (T : Types) (X : Externs) (P : Program) (nt : Nat) (hint : Nat → List Nat) : Code → Env → Heap → (Exit → Env → Heap → Prop) → Prop
  | .skip, e, H, Q => Q .normal e H
  | .region id ops draw, e, H, Q => bif draw then
      (bif orderOk ops (masks ops.toList []) (hint id) then denL2 T X P nt ops (masks ops.toList []) (hint id) [] e H (Q .normal) else False)
      else denIdx2 T X P nt ops (List.range ops.size) e H (Q .normal) (fun c => Q (.panic c))
  | .seq a b, e, H, Q => den T X P nt hint a e H (thenK (fun e' H' => den T X P nt hint b e' H' Q) Q)
  | .cond c a b, e, H, Q => p7Z (evE e c) (den T X P nt hint a e H Q) (den T X P nt hint b e H Q)
  | .block id b, e, H, Q => den T X P nt hint b e H (blockK id Q)
  | .exit id, e, H, Q => Q (.exit id) e H
  | .ret, e, H, Q => Q .ret e H
  | _, _, _, _ => False

section
variable {P : Program} {T : Types} {X : Externs} {nt : Nat} {hint : Nat → List Nat}
theorem den_sound (hT : TOk P T) (hX : XOk P X) (hf : P.follows .mixedOrders = true) : ∀ (c : Code) (e : Env) (H : Heap) (Q : Exit → Env → Heap → Prop), den T X P nt hint c e H Q → qUZ P nt c e H Q
  | .skip, e, H, Q, h => fun a w he hs => wp_skip ⟨e, H, he, hs, Keeps.refl _ _, h⟩
  | .region id ops draw, e, H, Q, h => by
    simp only [den] at h
    cases draw with
    | true =>
      simp only [cond_true] at h
      cases hok : orderOk ops (masks ops.toList []) (hint id) with
      | false => rw [hok] at h; exact h.elim
      | true =>
        rw [hok] at h
        exact qUZ.draw hT hX hf hok (denL2_eq _ _ _ _ ▸ h)
    | false =>
      simp only [cond_false] at h
      rw [denIdx2_eq] at h
      exact fun a w he hs => wp_region (denIdx_sound hT hX _ e H a w h hs he (Keeps.refl _ _))
  | .seq a b, e, H, Q, h => by
    simp only [den] at h
    refine qUZ.seq ((den_sound hT hX hf a e H _ h).mono ?_)
    intro x e' H' hx
    cases x with
    | normal => exact den_sound hT hX hf b e' H' Q hx
    | _ => exact hx
  | .cond c a b, e, H, Q, h => by
    simp only [den] at h
    refine qUZ.cond ?_
    unfold p7Z at h ⊢
    split at h
    · exact ⟨fun hb => den_sound hT hX hf a e H Q (h.1 hb), fun hb => den_sound hT hX hf b e H Q (h.2 hb)⟩
    · exact h
  | .block id b, e, H, Q, h => by
    simp only [den] at h
    exact qUZ.block (den_sound hT hX hf b e H _ h)
  | .exit id, e, H, Q, h => fun a w he hs => wp_exit ⟨e, H, he, hs, Keeps.refl _ _, h⟩
  | .ret, e, H, Q, h => fun a w he hs => wp_ret ⟨e, H, he, hs, Keeps.refl _ _, h⟩
  | .loop _, _, _, _, h => by simp only [den] at h
  | .rangeFunc .., _, _, _, h => by simp only [den] at h
  | .goto _, _, _, _, h => by simp only [den] at h
  | .label _, _, _, _, h => by simp only [den] at h
  | .scope _, _, _, _, h => by simp only [den] at h
  | .refuse _, _, _, _, h => by simp only [den] at h
end
end Go.Proofs.YtchhpagkdaaglaaDoor.SL
