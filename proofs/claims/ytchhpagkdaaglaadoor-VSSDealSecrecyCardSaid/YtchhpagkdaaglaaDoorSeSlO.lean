/- Part 15 of the proof of LawSe: SlO, one behind the other. -/
import Derived.Test.YtchhpagkdaaglaaDoorSeSlN
set_option linter.unusedVariables false
set_option linter.unusedSimpArgs false
namespace Go.Proofs.YtchhpagkdaaglaaDoor.SL
open Go

def mkK (kn : Env → Heap → Prop) (kx : Nat → Env → Heap → Prop) (kr : Env → Heap → Prop) (kp : List PanicEntry → Heap → Prop) : Exit → Env → Heap → Prop
  | .normal, e, H => kn e H
  | .exit i, e, H => kx i e H
  | .ret, e, H => kr e H
  | .panic c, e, H => kp c H
  | _, _, _ => False
def resVals (T : Types) (e : Env) (H : Heap) : List ResultVar → Option (List Value)
  | [] => some []
  | .tmp t :: r => (resVals T e H r).map (e t :: ·)
  | .cell a t :: r => ((T t).bind fun ti => qWZ ti (e a) H).bind fun v => (resVals T e H r).map (v :: ·)
def retM (o : Option (List Value)) (Q : Ending → Heap → Prop) (H : Heap) : Prop := match o with
  | some [v] => Q (.returned v) H
  | some vs => Q (.returned (.tuple vs.toArray)) H
  | none => False
def retK (T : Types) (rs : List ResultVar) (Q : Ending → Heap → Prop) (e : Env) (H : Heap) : Prop := retM (resVals T e H rs) Q H
def qSZ (fn : Func) : Code := match fn.body with
  | some c => c
  | none => .skip
def envOf (args : List Value) : Env := fun t => args.getD t undef
def qRZ : List Nat → Code → Code
  | 0 :: p, .seq a _ => qRZ p a
  | 1 :: p, .seq _ b => qRZ p b
  | 0 :: p, .cond _ a _ => qRZ p a
  | 1 :: p, .cond _ _ b => qRZ p b
  | _ :: p, .block _ a => qRZ p a
  | _ :: p, .loop a => qRZ p a
  | [], c => c
  | _, _ => .skip

section
variable {P : Program} {T : Types} {X : Externs} {nt : Nat} {hint : Nat → List Nat}

def oneRes (tmps : Array Value) : ResultVar → Sem Value
  | .tmp t => pure (tmps.getD t undef)
  | .cell x t => do loadVar t (← asAddr (tmps.getD x undef))
theorem run_resVals (hT : TOk P T) {e : Env} {a : Act} {H : Heap} {w : World} (he : EnvOk nt e a) (hs : Sat H w) : ∀ (rs : List ResultVar) (vs : List Value), resVals T e H rs = some vs →
    (rs.mapM (oneRes a.tmps)).run P w = .ok vs w
  | [], vs, h => by simp only [resVals] at h; cases h; simp
  | .tmp t :: r, vs, h => by
    simp only [resVals] at h
    obtain ⟨vs', hv, rfl⟩ := Option.map_eq_some_iff.1 h
    have ih := run_resVals hT he hs r vs' hv
    have h1 : (oneRes a.tmps (.tmp t)).run P w = .ok (e t) w := by simp only [oneRes, he.get, Sem.run_pure]
    simp only [List.mapM_cons, Sem.run_bind, h1, Result.andThen_ok, ih, Sem.run_pure]
  | .cell x t :: r, vs, h => by
    simp only [resVals] at h
    obtain ⟨v, hv, h⟩ := Option.bind_eq_some_iff.1 h
    obtain ⟨vs', hvs, rfl⟩ := Option.map_eq_some_iff.1 h
    obtain ⟨ti, hti, hv⟩ := Option.bind_eq_some_iff.1 hv
    have ih := run_resVals hT he hs r vs' hvs
    have hl := run_vLoad (P := P) (hT t ti hti) hs hv
    have hx : ∃ ad, e x = .pointer (some ad) := by
      unfold qWZ at hv
      split at hv
      · rename_i i off hx; exact ⟨_, hx⟩
      · cases hv
    obtain ⟨ad, hx⟩ := hx
    rw [hx] at hl
    have hl2 : (loadVar t ad).run P w = .ok v w := by simpa [Instr.loadAt, run_sureAddr] using hl
    have h1 : (oneRes a.tmps (.cell x t)).run P w = .ok v w := by simp only [oneRes, Sem.run_bind, he.get, hx, asAddr, Sem.run_pure, Result.andThen_ok, hl2]
    simp only [List.mapM_cons, Sem.run_bind, h1, Result.andThen_ok, ih, Sem.run_pure]
theorem results_eq (fn : Func) (tmps : Array Value) : results fn tmps = (do let vs ← fn.results.mapM (oneRes tmps); pure (if h : vs.size = 1 then vs[0] else .tuple vs)) := by
  unfold results
  congr 1
theorem run_results (hT : TOk P T) {fn : Func} {e : Env} {a : Act} {H : Heap} {w : World} {Q : Ending → Heap → Prop} (he : EnvOk nt e a) (hs : Sat H w) (h : retK T fn.results.toList Q e H) :
    ∃ v, (results fn a.tmps).run P w = .ok v w ∧ Q (.returned v) H := by
  unfold retK retM at h
  have go : ∀ vs, resVals T e H fn.results.toList = some vs → (fn.results.mapM (oneRes a.tmps)).run P w = .ok vs.toArray w := by
    intro vs hv
    rw [Array.mapM_eq_mapM_toList]
    simp only [Sem.run_map]
    rw [run_resVals hT he hs _ vs hv]
    rfl
  rw [results_eq]
  split at h
  · rename_i v hv
    refine ⟨v, ?_, h⟩
    simp only [Sem.run_bind, go _ hv, Result.andThen_ok, Sem.run_pure]
    simp
  · rename_i vs hne hv
    refine ⟨_, ?_, h⟩
    simp only [Sem.run_bind, go _ hv, Result.andThen_ok, Sem.run_pure]
    have : vs.length ≠ 1 := by
      intro hl
      obtain ⟨v, rfl⟩ := List.length_eq_one_iff.1 hl
      exact hne v rfl
    simp [this]
  · exact h.elim

theorem envOf_ok {args : List Value} {nt : Nat} (h : args.length ≤ nt) : EnvOk nt (envOf args) { tmps := args.toArray ++ Array.replicate (nt - args.toArray.size) undef, defers := [] } := by
  refine ⟨by simp; omega, rfl, fun t => ?_⟩
  simp only [envOf, Array.getD_eq_getD_getElem?, List.getD_eq_getElem?_getD]
  by_cases ht : t < args.length
  · rw [Array.getElem?_append_left (by simpa using ht)]
    simp
  · rw [Array.getElem?_append_right (by simpa using ht), Array.getElem?_replicate]
    have : args[t]? = none := List.getElem?_eq_none (by omega)
    rw [this]
    split <;> rfl

theorem qVZ.intro (hT : TOk P T) {f : FuncId} {fn : Func} {args : List Value} {H : Heap} {Q : Ending → Heap → Prop} (hfn : P.funcs[f]? = some fn) (hnt : fn.ntmps = nt) (hb : fn.body.isSome = true) (hname : (fn.name == "runtime.NumGoroutine") = false)
    (hargs : args.length ≤ nt) (h : qUZ P nt (qSZ fn) (envOf args) H (mkK (retK T fn.results.toList Q) (fun _ _ _ => False) (retK T fn.results.toList Q) (fun c H' => Q (.panicked c) H'))) : qVZ P f args H Q := by
  subst hnt
  obtain ⟨c, hc⟩ := Option.isSome_iff_exists.1 hb
  have hbody : qSZ fn = c := by simp [qSZ, hc]
  rw [hbody] at h
  refine ⟨fun a w => ?_, fun w hs => calls_of_wp hfn hc (wp_mono (h _ w (envOf_ok hargs) hs) ?_)⟩
  · have hname' : ¬ fn.name = "runtime.NumGoroutine" := by simpa using hname
    simp [callFunc, hfn, hname', hc]
  · rintro x a' w' ⟨e, H', h1, h2, h3, h4⟩
    cases x with
    | normal =>
      obtain ⟨v, hv, hq⟩ := run_results (P := P) hT h1 h2 h4
      exact ⟨h1.defers, v, hv, H', h2, h3, hq⟩
    | ret =>
      obtain ⟨v, hv, hq⟩ := run_results (P := P) hT h1 h2 h4
      exact ⟨h1.defers, v, hv, H', h2, h3, hq⟩
    | panic c => exact ⟨h1.defers, H', h2, h3, h4⟩
    | exit i => exact h4.elim
    | goto l => exact h4.elim
    | outgrown => exact h4.elim

variable {kn kN : Env → Heap → Prop} {kx kX : Nat → Env → Heap → Prop} {kr kR : Env → Heap → Prop} {kp kP : List PanicEntry → Heap → Prop} {e : Env} {H : Heap}
theorem qPZ (hn : ∀ e H, kn e H → kN e H) (hx : ∀ i e H, kx i e H → kX i e H) (hr : ∀ e H, kr e H → kR e H) (hp : ∀ c H, kp c H → kP c H) (x : Exit) (e : Env) (H : Heap) (h : mkK kn kx kr kp x e H) : mkK kN kX kR kP x e H := by
  cases x <;> simp only [mkK] at h ⊢ <;> first | exact hn _ _ h | exact hx _ _ _ h | exact hr _ _ h | exact hp _ _ h | exact h
def denN (T : Types) (X : Externs) (P : Program) (nt : Nat) (hint : Nat → List Nat) : Nat → Code → Env → Heap → (Exit → Env → Heap → Prop) → (Env → Heap → Prop) → Prop
  | 0, _, e, H, _, hole => hole e H
  | n + 1, .seq a b, e, H, Q, hole => den T X P nt hint a e H (thenK (fun e' H' => denN T X P nt hint n b e' H' Q hole) Q)
  | _, _, _, _, _, _ => False
theorem denN_sound (hT : TOk P T) (hX : XOk P X) (hf : P.follows .mixedOrders = true) {Q : Exit → Env → Heap → Prop} {hole : Env → Heap → Prop} : ∀ (n : Nat) (c : Code) (e : Env) (H : Heap), denN T X P nt hint n c e H Q hole →
    (∀ e H, hole e H → qUZ P nt (qRZ (List.replicate n 1) c) e H Q) → qUZ P nt c e H Q
  | 0, c, e, H, h, hh => hh e H h
  | n + 1, .seq a b, e, H, h, hh => by
    simp only [denN] at h
    refine qUZ.seq ((den_sound hT hX hf a e H _ h).mono ?_)
    intro x e' H' hx
    cases x with
    | normal => exact denN_sound hT hX hf n b e' H' hx hh
    | _ => exact hx
theorem qUZ.prefix_ (hT : TOk P T) (hX : XOk P X) (hf : P.follows .mixedOrders = true) (n : Nat) {c c' : Code} {M : Prop} {hole : Env → Heap → Prop} (heq : denN T X P nt hint n c e H (mkK kn kx kr kp) hole = M) (hc : qRZ (List.replicate n 1) c = c') (h : M)
    (hh : ∀ e H, hole e H → qUZ P nt c' e H (mkK kn kx kr kp)) : qUZ P nt c e H (mkK kn kx kr kp) :=
  denN_sound hT hX hf n c e H (heq ▸ h) (fun e H hx => hc ▸ hh e H hx)
theorem qUZ.leaf_ (hT : TOk P T) (hX : XOk P X) (hf : P.follows .mixedOrders = true) {c : Code} {M : Prop} (heq : den T X P nt hint c e H (mkK kn kx kr kp) = M) (h : M) : qUZ P nt c e H (mkK kn kx kr kp) :=
  den_sound hT hX hf c e H _ (heq ▸ h)
theorem qUZ.join {c x y : Code} (hc : c = .seq x y) (h : qUZ P nt x e H (mkK (fun e' H' => qUZ P nt y e' H' (mkK kN kX kR kP)) kX kR kP)) : qUZ P nt c e H (mkK kN kX kR kP) := by
  subst hc
  exact qUZ.seq (h.mono fun x e H hh => by cases x <;> exact hh)
def inK (id : Nat) (kn : Env → Heap → Prop) (kx : Nat → Env → Heap → Prop) : Nat → Env → Heap → Prop := fun i => bif Nat.beq i id then kn else kx i
theorem qUZ.blk {c x : Code} {id : Nat} (hc : c = .block id x) (h : qUZ P nt x e H (mkK kN (inK id kN kX) kR kP)) : qUZ P nt c e H (mkK kN kX kR kP) := by
  subst hc
  refine qUZ.block (h.mono fun x e H hh => ?_)
  cases x <;> simp only [mkK, blockK, inK] at hh ⊢ <;> try exact hh
  rename_i i
  cases hb : Nat.beq i id <;> rw [hb] at hh <;> exact hh
theorem qUZ.lp {c b : Code} (hc : c = .loop b) {Q : Exit → Env → Heap → Prop} (h : RLoop P nt b e H Q) : qUZ P nt c e H Q := by
  subst hc
  exact qUZ.loop h
theorem RLoop.round {b : Code} (h : qUZ P nt b e H (mkK (fun e' H' => RLoop P nt b e' H' (mkK kN kX kR kP)) kX kR kP)) : RLoop P nt b e H (mkK kN kX kR kP) :=
  RLoop.step (h.mono fun x e H hh => by cases x <;> exact hh)
end
end Go.Proofs.YtchhpagkdaaglaaDoor.SL
