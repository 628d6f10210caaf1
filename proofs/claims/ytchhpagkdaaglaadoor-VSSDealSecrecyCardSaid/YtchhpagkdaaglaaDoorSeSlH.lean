/- Part 8 of the proof of LawSe: SlH, one behind the other. -/
import Derived.Test.YtchhpagkdaaglaaDoorSeSlG
set_option linter.unusedVariables false
set_option linter.unusedSimpArgs false
namespace Go.Proofs.YtchhpagkdaaglaaDoor.SL
open Go

def guardV (ops : Array Oper) (env : Env) (j : Nat) : Value := match (ops[j]?).bind (·.dst) with
  | some d => env d
  | none => undef
def gK (v : Value) (want : Bool) (A B : Prop) : Prop := match v with
  | .bool b => (b = want → A) ∧ (b ≠ want → B)
  | _ => B
def opGv (T : Types) (X : Externs) (P : Program) (ops : Array Oper) (o : Oper) (env : Env) (H : Heap) (k : Value → Heap → Prop) (p : List PanicEntry → Heap → Prop) : Prop := match o.guard with
  | none => opW T X P (evE env) o.op H k p
  | some (j, want) => gK (guardV ops env j) want (opW T X P (evE env) o.op H k p) (k undef H)
def denIdx (T : Types) (X : Externs) (P : Program) (nt : Nat) (ops : Array Oper) : List Nat → Env → Heap → (Env → Heap → Prop) → (List PanicEntry → Env → Heap → Prop) → Prop
  | [], env, H, k, _ => k env H
  | i :: rest, env, H, k, p => match ops[i]? with
    | some o => opGv T X P ops o env H (fun v H' => denIdx T X P nt ops rest (putE nt env o.dst v) H' k p) (fun c H' => p c env H')
    | none => False

section
variable {P : Program} {T : Types} {X : Externs} {nt : Nat}

def lift (nt : Nat) (H : Heap) (w : World) (Q : Exit → Env → Heap → Prop) : Exit → Act → World → Prop :=
  fun x a' w' => ∃ env' H', EnvOk nt env' a' ∧ Sat H' w' ∧ Keeps H w H' w' ∧ Q x env' H'

theorem wanted_guard {ops : Array Oper} {o : Oper} {env : Env} {a : Act} (he : EnvOk nt env a) :
    match o.guard with
    | none => Region.wanted o (yielded ops a.tmps) = true
    | some (j, want) => Region.wanted o (yielded ops a.tmps) = (match guardV ops env j with | .bool b => b == want | _ => false) := by
  cases hg : o.guard with
  | none => simp [Region.wanted, hg]
  | some q =>
    obtain ⟨j, want⟩ := q
    simp only [Region.wanted, hg, guardV]
    cases hd : (ops[j]?).bind (·.dst) with
    | none => simp [yielded, hd, undef]
    | some d =>
      have h1 := he.get d
      simp only [yielded, hd, Option.bind_some]
      by_cases hlt : d < a.tmps.size
      · have e1 : a.tmps[d]? = some (env d) := by
          rw [← h1]
          simp [hlt]
        simp only [e1]
        cases env d <;> simp
      · have e1 : a.tmps[d]? = none := by
          rw [Array.getElem?_eq_none_iff]
          exact Nat.le_of_not_lt hlt
        have e2 : env d = undef := by
          rw [← h1]
          simp [e1]
        simp [e1, e2, undef]

theorem opGv_wp (hT : TOk P T) (hX : XOk P X) {ops : Array Oper} {i : Nat} {o : Oper} {env : Env} {a : Act} {H : Heap} {w : World} {k : Env → Heap → Prop} {p : List PanicEntry → Heap → Prop} {K : Act → World → Prop} {Q : Exit → Act → World → Prop}
    (hi : ops[i]? = some o) (h : opGv T X P ops o env H (fun v H' => k (putE nt env o.dst v) H') p) (hs : Sat H w) (he : EnvOk nt env a)
    (hK : ∀ env' H' a' w', EnvOk nt env' a' → Sat H' w' → Keeps H w H' w' → k env' H' → K a' w')
    (hp : ∀ c H' w', Sat H' w' → Keeps H w H' w' → p c H' → Q (.panic c) a w') : wpOp P ops Q i K a w := by
  unfold wpOp
  simp only [hi]
  have hw := wanted_guard (ops := ops) (o := o) he
  unfold opGv at h
  cases hg : o.guard with
  | none =>
    rw [hg] at hw h
    simp only at hw h
    rw [if_pos hw]
    exact .inl (op_wp hT hX h hs he hK hp)
  | some q =>
    obtain ⟨j, want⟩ := q
    rw [hg] at hw h
    simp only at hw h
    rw [hw]
    unfold gK at h
    have skip : k (putE nt env o.dst undef) H → K (a.put o.dst undef) w := fun h => hK _ _ _ _ (he.put o.dst undef) hs (Keeps.refl _ _) h
    cases hv : guardV ops env j <;> rw [hv] at h <;> simp only at h ⊢
    case bool b =>
      by_cases hb : b = want
      · rw [if_pos (by simp [hb])]
        exact .inl (op_wp hT hX (h.1 hb) hs he hK hp)
      · rw [if_neg (by simp [hb])]
        exact skip (h.2 hb)
    all_goals
      rw [if_neg (by simp)]
      exact skip h

theorem denIdx_sound (hT : TOk P T) (hX : XOk P X) {ops : Array Oper} {Q : Exit → Env → Heap → Prop} {H0 : Heap} {w0 : World} : ∀ (is : List Nat) (env : Env) (H : Heap) (a : Act) (w : World),
    denIdx T X P nt ops is env H (Q .normal) (fun c => Q (.panic c)) → Sat H w → EnvOk nt env a → Keeps H0 w0 H w → wpOps P ops (lift nt H0 w0 Q) is a w
  | [], env, H, a, w, h, hs, he, hk => ⟨env, H, he, hs, hk, h⟩
  | i :: rest, env, H, a, w, h, hs, he, hk => by
    rw [wpOps_cons]
    unfold denIdx at h
    split at h
    · rename_i o ho
      refine opGv_wp (nt := nt) hT hX (k := fun e H' => denIdx T X P nt ops rest e H' (Q .normal) (fun c => Q (.panic c))) ho h hs he ?_ ?_
      · intro env' H' a' w' h1 h2 h3 h4
        exact denIdx_sound hT hX rest env' H' a' w' h4 h2 h1 (hk.trans h3)
      · intro c H' w' h1 h2 h3
        exact ⟨env, H', he, h1, hk.trans h2, h3⟩
    · exact h.elim

def qUZ (P : Program) (nt : Nat) (c : Code) (env : Env) (H : Heap) (Q : Exit → Env → Heap → Prop) : Prop :=
  ∀ a w, EnvOk nt env a → Sat H w → c.wp P (lift nt H w Q) a w
theorem lift_trans {H H1 : Heap} {w w1 : World} {Q : Exit → Env → Heap → Prop} (hk : Keeps H w H1 w1) {x : Exit} {a : Act} {w2 : World} (h : lift nt H1 w1 Q x a w2) : lift nt H w Q x a w2 := by
  obtain ⟨e, H', h1, h2, h3, h4⟩ := h
  exact ⟨e, H', h1, h2, hk.trans h3, h4⟩
theorem qUZ.mono {c : Code} {env : Env} {H : Heap} {Q Q' : Exit → Env → Heap → Prop} (h : qUZ P nt c env H Q) (hq : ∀ x e H', Q x e H' → Q' x e H') : qUZ P nt c env H Q' :=
  fun a w he hs => wp_mono (h a w he hs) fun x a' w' ⟨e, H', h1, h2, h3, h4⟩ => ⟨e, H', h1, h2, h3, hq _ _ _ h4⟩
def thenK (k : Env → Heap → Prop) (Q : Exit → Env → Heap → Prop) : Exit → Env → Heap → Prop
  | .normal, e, H => k e H
  | x, e, H => Q x e H
def blockK (id : Nat) (Q : Exit → Env → Heap → Prop) : Exit → Env → Heap → Prop
  | .exit id', e, H => bif Nat.beq id' id then Q .normal e H else Q (.exit id') e H
  | x, e, H => Q x e H
def p7Z (v : Value) (A B : Prop) : Prop := match v with
  | .bool b => (b = true → A) ∧ (b = false → B)
  | _ => False
theorem qUZ.seq {x y : Code} {env : Env} {H : Heap} {Q : Exit → Env → Heap → Prop} (h : qUZ P nt x env H (thenK (fun e H' => qUZ P nt y e H' Q) Q)) : qUZ P nt (.seq x y) env H Q := by
  intro a w he hs
  refine wp_seq (wp_mono (h a w he hs) ?_)
  rintro x a' w' ⟨e, H', h1, h2, h3, h4⟩
  cases x with
  | normal =>
    simp only [thenK] at h4
    simp only [Exit.then]
    exact wp_mono (h4 a' w' h1 h2) fun x a2 w2 hl => lift_trans h3 hl
  | _ => exact ⟨e, H', h1, h2, h3, h4⟩
theorem qUZ.block {id : Nat} {c : Code} {env : Env} {H : Heap} {Q : Exit → Env → Heap → Prop} (h : qUZ P nt c env H (blockK id Q)) : qUZ P nt (.block id c) env H Q := by
  intro a w he hs
  refine wp_block (wp_mono (h a w he hs) ?_)
  rintro x a' w' ⟨e, H', h1, h2, h3, h4⟩
  cases x with
  | exit id' =>
    simp only [blockK] at h4
    simp only [Exit.inBlock]
    cases hb : Nat.beq id' id with
    | true =>
      rw [hb] at h4
      rw [if_pos (Nat.eq_of_beq_eq_true hb)]
      exact ⟨e, H', h1, h2, h3, h4⟩
    | false =>
      rw [hb] at h4
      rw [if_neg (fun e => by subst e; rw [Nat.beq_refl] at hb; cases hb)]
      exact ⟨e, H', h1, h2, h3, h4⟩
  | _ => exact ⟨e, H', h1, h2, h3, h4⟩
theorem qUZ.cond {c : Operand} {x y : Code} {env : Env} {H : Heap} {Q : Exit → Env → Heap → Prop} (h : p7Z (evE env c) (qUZ P nt x env H Q) (qUZ P nt y env H Q)) : qUZ P nt (.cond c x y) env H Q := by
  intro a w he hs
  unfold p7Z at h
  split at h
  · rename_i b hb
    exact wp_cond_split (t := b) (by rw [he.eval]; exact hb) (fun hb => h.1 hb a w he hs) (fun hb => h.2 hb a w he hs)
  · exact h.elim

def wpIn (P : Program) (c : Code) (Q : Exit → Act → World → Prop) (a : Act) (w : World) : Prop :=
  ∀ (b : Frame) (k : List Item) (cs : List Frame), ∃ e a' w', Q e a' w' ∧ Arrives P (lone (b.at a (.code c :: .inLoop c :: k)) cs w) b k cs e a' w'
theorem wp_loop_in {c : Code} {Q : Exit → Act → World → Prop} {a : Act} {w : World} (h : wpIn P c Q a w) : (Code.loop c).wp P Q a w := by
  intro b k cs
  obtain ⟨e, a', w', hq, harr⟩ := h b k cs
  exact ⟨e, a', w', hq, .of_steps (.one step_loop) harr⟩
theorem wp_in {c : Code} {Q : Exit → Act → World → Prop} {a : Act} {w : World} (h : c.wp P (Exit.then (wpIn P c Q) Q) a w) : wpIn P c Q a w := by
  intro b k cs
  obtain ⟨e, a₁, w₁, hq, harr⟩ := h b (.inLoop c :: k) cs
  cases e with
  | normal =>
    obtain ⟨e₂, a₂, w₂, hq₂, harr₂⟩ := hq b k cs
    exact ⟨e₂, a₂, w₂, hq₂, .of_steps (Steps.trans harr (.one step_inLoop)) harr₂⟩
  | exit id => exact ⟨_, a₁, w₁, hq, .pass (x := .inLoop c) rfl (fun _ _ => .inl (by simp)) harr⟩
  | goto l => exact ⟨_, a₁, w₁, hq, .pass (x := .inLoop c) rfl (fun _ _ => .inl (by simp)) harr⟩
  | ret => exact ⟨_, a₁, w₁, hq, .pass (x := .inLoop c) rfl (fun _ _ => .inl (by simp)) harr⟩
  | panic ch => exact ⟨_, a₁, w₁, hq, .pass (x := .inLoop c) rfl (fun _ _ => .inl (by simp)) harr⟩
  | outgrown => exact ⟨_, a₁, w₁, hq, .pass (x := .inLoop c) rfl (fun _ _ => .inl (by simp)) harr⟩
theorem wpIn_mono {c : Code} {Q Q' : Exit → Act → World → Prop} {a : Act} {w : World} (h : wpIn P c Q a w) (hq : ∀ e a w, Q e a w → Q' e a w) : wpIn P c Q' a w :=
  fun b k cs => let ⟨e, a', w', q, r⟩ := h b k cs; ⟨e, a', w', hq _ _ _ q, r⟩
def RLoop (P : Program) (nt : Nat) (c : Code) (env : Env) (H : Heap) (Q : Exit → Env → Heap → Prop) : Prop :=
  ∀ a w, EnvOk nt env a → Sat H w → wpIn P c (lift nt H w Q) a w
theorem RLoop.mono {c : Code} {env : Env} {H : Heap} {Q Q' : Exit → Env → Heap → Prop} (h : RLoop P nt c env H Q) (hq : ∀ x e H', Q x e H' → Q' x e H') : RLoop P nt c env H Q' :=
  fun a w he hs => wpIn_mono (h a w he hs) fun x a' w' ⟨e, H', h1, h2, h3, h4⟩ => ⟨e, H', h1, h2, h3, hq _ _ _ h4⟩
theorem qUZ.loop {c : Code} {env : Env} {H : Heap} {Q : Exit → Env → Heap → Prop} (h : RLoop P nt c env H Q) : qUZ P nt (.loop c) env H Q := fun a w he hs => wp_loop_in (h a w he hs)
theorem RLoop.step {c : Code} {env : Env} {H : Heap} {Q : Exit → Env → Heap → Prop} (h : qUZ P nt c env H (thenK (fun e H' => RLoop P nt c e H' Q) Q)) : RLoop P nt c env H Q := by
  intro a w he hs
  refine wp_in (wp_mono (h a w he hs) ?_)
  rintro x a' w' ⟨e, H', h1, h2, h3, h4⟩
  cases x with
  | normal =>
    simp only [thenK] at h4
    simp only [Exit.then]
    exact wpIn_mono (h4 a' w' h1 h2) fun x a2 w2 hl => lift_trans h3 hl
  | _ => exact ⟨e, H', h1, h2, h3, h4⟩
end
end Go.Proofs.YtchhpagkdaaglaaDoor.SL
