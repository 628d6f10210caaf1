/- Part 12 of the proof of LawSe: SlL, one behind the other. -/
import Derived.Test.YtchhpagkdaaglaaDoorSeSlK
set_option linter.unusedVariables false
set_option linter.unusedSimpArgs false
namespace Go.Proofs.YtchhpagkdaaglaaDoor.SL
open Go
section
variable {P : Program} {T : Types} {X : Externs} {nt : Nat} {ops : Array Oper} {ms : List Nat} {k : Env → Heap → Prop}

theorem denL_1 {i : Nat} {o : Oper} (ho : ops[i]? = some o) (hc : cls o.op = 1) (rest : List Nat) (W : Watch) (env : Env) (H : Heap) :
    denL T X P nt ops ms (i :: rest) W env H k = oV (rdOf T ops env o H) fun v => denL T X P nt ops ms rest ((i, rdOf T ops env o, v) :: W) (putE nt env o.dst v) H k := by
  simp only [denL, ho, hc]
theorem denL_3 {i : Nat} {o : Oper} (ho : ops[i]? = some o) (hc : cls o.op = 3) (rest : List Nat) (W : Watch) (env : Env) (H : Heap) :
    denL T X P nt ops ms (i :: rest) W env H k = stp T X P ops o env H (fun v H' => wCheck (ms.getD i 0) W H' (denL T X P nt ops ms rest W (putE nt env o.dst v) H' k)) := by
  simp only [denL, ho, hc, stp]
theorem denL_0 {i : Nat} {o : Oper} (ho : ops[i]? = some o) (h1 : cls o.op ≠ 1) (h3 : cls o.op ≠ 3) (rest : List Nat) (W : Watch) (env : Env) (H : Heap) :
    denL T X P nt ops ms (i :: rest) W env H k = stp T X P ops o env H (fun v H' => denL T X P nt ops ms rest W (putE nt env o.dst v) H' k) := by
  simp only [denL, ho, stp]
theorem cls_lt (op : Op) : cls op = 0 ∨ cls op = 1 ∨ cls op = 2 ∨ cls op = 3 := by
  cases op <;> simp only [cls] <;> (try simp)
  rename_i c
  obtain ⟨callee, args, ts⟩ := c
  cases callee <;> simp
  rename_i b
  cases b <;> simp

theorem stp_mono (o : Oper) (env : Env) : Mono (stp T X P ops o env) := by
  rcases cls_lt o.op with h | h | h | h
  · obtain ⟨c, hc⟩ := step_pure (T := T) (X := X) (P := P) (ops := ops) h env; exact hc.mono
  · exact (step_read h env).mono
  · exact (step_alloc h env).mono
  · exact (step_eff h env).mono
theorem stp_ext (o : Oper) (env : Env) : Ext (stp T X P ops o env) := by
  rcases cls_lt o.op with h | h | h | h
  · obtain ⟨c, hc⟩ := step_pure (T := T) (X := X) (P := P) (ops := ops) h env; exact hc.ext
  · exact (step_read h env).ext
  · exact (step_alloc h env).ext
  · exact (step_eff h env).ext

def MonoW (W : Watch) : Prop := ∀ e ∈ W, MonoR e.2.1
theorem MonoW.cons {W : Watch} (h : MonoW W) {i : Nat} {o : Oper} {env : Env} {v : Value} : MonoW ((i, rdOf T ops env o, v) :: W) := by
  intro e he
  rcases List.mem_cons.1 he with rfl | he
  · exact rdOf_mono
  · exact h e he

theorem denL_tail {L1 L2 : List Nat} (hf : ∀ W env H, Real H → MonoW W → denL T X P nt ops ms L1 W env H k → denL T X P nt ops ms L2 W env H k) {i : Nat} {W : Watch} {env : Env} {H : Heap} (hr : Real H) (hW : MonoW W)
    (h : denL T X P nt ops ms (i :: L1) W env H k) : denL T X P nt ops ms (i :: L2) W env H k := by
  cases ho : ops[i]? with
  | none => simp only [denL, ho] at h
  | some o =>
    by_cases h1 : cls o.op = 1
    · rw [denL_1 ho h1] at h ⊢
      exact oV_mono h fun v hv => hf _ _ _ hr hW.cons hv
    · by_cases h3 : cls o.op = 3
      · rw [denL_3 ho h3] at h ⊢
        refine stp_mono o env _ _ _ hr h fun v H' hr' hv => ?_
        rw [wCheck_iff] at hv ⊢
        exact ⟨hv.1, hf _ _ _ hr' hW hv.2⟩
      · rw [denL_0 ho h1 h3] at h ⊢
        exact stp_mono o env _ _ _ hr h fun v H' hr' hv => hf _ _ _ hr' hW hv
theorem denL_W : ∀ (L : List Nat) (W W' : Watch) (env : Env) (H : Heap), (∀ e ∈ W', e ∈ W) → Real H → denL T X P nt ops ms L W env H k → denL T X P nt ops ms L W' env H k
  | [], _, _, _, _, _, _, h => h
  | i :: L, W, W', env, H, hs, hr, h => by
    cases ho : ops[i]? with
    | none => simp only [denL, ho] at h
    | some o =>
      by_cases h1 : cls o.op = 1
      · rw [denL_1 ho h1] at h ⊢
        refine oV_mono h fun v hv => denL_W L _ _ _ _ (fun e he => ?_) hr hv
        rcases List.mem_cons.1 he with rfl | he
        · simp
        · exact List.mem_cons_of_mem _ (hs e he)
      · by_cases h3 : cls o.op = 3
        · rw [denL_3 ho h3] at h ⊢
          refine stp_mono o env _ _ _ hr h fun v H' hr' hv => ?_
          rw [wCheck_iff] at hv ⊢
          exact ⟨fun e he => hv.1 e (hs e he), denL_W L _ _ _ _ hs hr' hv.2⟩
        · rw [denL_0 ho h1 h3] at h ⊢
          exact stp_mono o env _ _ _ hr h fun v H' hr' hv => denL_W L _ _ _ _ hs hr' hv

def swapC (x y : Op) : Bool := match cls x, cls y with
  | 0, _ => true
  | 1, _ => true
  | 2, 0 => true
  | 2, 2 => true
  | 3, 0 => true
  | 3, 2 => true
  | _, _ => false

variable {x y : Nat} {ox oy : Oper} {R : List Nat} {W : Watch} {env : Env} {H : Heap}
theorem stp_put {o : Oper} {d : Option Nat} {v : Value} (h : ∀ t, d = some t → t ∉ o.looksAt ops) : stp T X P ops o (putE nt env d v) = stp T X P ops o env := by
  funext H k
  exact opGv_congr h H k noP

theorem swap_x_pure (hx : ops[x]? = some ox) (hy : ops[y]? = some oy) (hap : ox.apart ops oy = true) (h1 : cls ox.op ≠ 1) (h3 : cls ox.op ≠ 3) {c : Option Value} (hc : IsPure (stp T X P ops ox env) c) (hr : Real H)
    (h : denL T X P nt ops ms (x :: y :: R) W env H k) : denL T X P nt ops ms (y :: x :: R) W env H k := by
  obtain ⟨a1, a2, a3⟩ := Oper.apart_spec hap
  have cm : ∀ v u, putE nt (putE nt env ox.dst v) oy.dst u = putE nt (putE nt env oy.dst u) ox.dst v := fun v u => putE_comm a2
  rw [denL_0 hx h1 h3, hc] at h
  obtain ⟨vx, hvx, h⟩ := oV_elim h
  have back : ∀ (vy : Value) (H' : Heap) (W' : Watch), denL T X P nt ops ms R W' (putE nt (putE nt env ox.dst vx) oy.dst vy) H' k → denL T X P nt ops ms (x :: R) W' (putE nt env oy.dst vy) H' k := by
    intro vy H' W' hh
    rw [denL_0 hx h1 h3, stp_put (nt := nt) (env := env) (v := vy) a3, hc, hvx, oV_some, ← cm]
    exact hh
  by_cases g1 : cls oy.op = 1
  · rw [denL_1 hy g1, rdOf_congr a1] at h
    rw [denL_1 hy g1]
    exact oV_mono h fun vy hv => back vy H _ hv
  · by_cases g3 : cls oy.op = 3
    · rw [denL_3 hy g3, stp_put (nt := nt) (env := env) (v := vx) a1] at h
      rw [denL_3 hy g3]
      refine stp_mono oy env _ _ _ hr h fun vy H' _ hv => ?_
      rw [wCheck_iff] at hv ⊢
      exact ⟨hv.1, back vy H' W hv.2⟩
    · rw [denL_0 hy g1 g3, stp_put (nt := nt) (env := env) (v := vx) a1] at h
      rw [denL_0 hy g1 g3]
      exact stp_mono oy env _ _ _ hr h fun vy H' _ hv => back vy H' W hv

theorem swap_y_pure (hx : ops[x]? = some ox) (hy : ops[y]? = some oy) (hap : ox.apart ops oy = true) (g1 : cls oy.op ≠ 1) (g3 : cls oy.op ≠ 3) {c : Option Value} (hc : IsPure (stp T X P ops oy env) c) (hr : Real H)
    (h : denL T X P nt ops ms (x :: y :: R) W env H k) : denL T X P nt ops ms (y :: x :: R) W env H k := by
  obtain ⟨a1, a2, a3⟩ := Oper.apart_spec hap
  have cm : ∀ v u, putE nt (putE nt env ox.dst v) oy.dst u = putE nt (putE nt env oy.dst u) ox.dst v := fun v u => putE_comm a2
  have inner : ∀ (vx : Value) (H' : Heap) (W' : Watch), denL T X P nt ops ms (y :: R) W' (putE nt env ox.dst vx) H' k → ∃ vy, c = some vy ∧ denL T X P nt ops ms R W' (putE nt (putE nt env oy.dst vy) ox.dst vx) H' k := by
    intro vx H' W' hh
    rw [denL_0 hy g1 g3, stp_put (nt := nt) (env := env) (v := vx) a1, hc] at hh
    obtain ⟨vy, e, hh⟩ := oV_elim hh
    exact ⟨vy, e, by rw [← cm]; exact hh⟩
  by_cases h1 : cls ox.op = 1
  · rw [denL_1 hx h1] at h
    obtain ⟨vx, hvx, h⟩ := oV_elim h
    obtain ⟨vy, rfl, h⟩ := inner vx H _ h
    rw [denL_0 hy g1 g3, hc, oV_some, denL_1 hx h1, rdOf_congr a3, hvx, oV_some]
    exact h
  · by_cases h3 : cls ox.op = 3
    · rw [denL_3 hx h3] at h
      obtain ⟨vx0, H0, hr0, h0⟩ := stp_ext ox env _ _ hr h
      rw [wCheck_iff] at h0
      obtain ⟨vy, rfl, _⟩ := inner vx0 H0 _ h0.2
      rw [denL_0 hy g1 g3, hc, oV_some, denL_3 hx h3, stp_put (nt := nt) (env := env) (v := vy) a3]
      refine stp_mono ox env _ _ _ hr h fun vx H' _ hv => ?_
      rw [wCheck_iff] at hv ⊢
      obtain ⟨vy', e, hh⟩ := inner vx H' _ hv.2
      cases e
      exact ⟨hv.1, hh⟩
    · rw [denL_0 hx h1 h3] at h
      obtain ⟨vx0, H0, hr0, h0⟩ := stp_ext ox env _ _ hr h
      obtain ⟨vy, rfl, _⟩ := inner vx0 H0 _ h0
      rw [denL_0 hy g1 g3, hc, oV_some, denL_0 hx h1 h3, stp_put (nt := nt) (env := env) (v := vy) a3]
      refine stp_mono ox env _ _ _ hr h fun vx H' _ hv => ?_
      obtain ⟨vy', e, hh⟩ := inner vx H' _ hv
      cases e
      exact hh

theorem swap (hx : ops[x]? = some ox) (hy : ops[y]? = some oy) (hap : ox.apart ops oy = true) (hsw : swapC ox.op oy.op = true) (hb : (ms.getD y 0).testBit x = false) (hr : Real H) (hW : MonoW W)
    (h : denL T X P nt ops ms (x :: y :: R) W env H k) : denL T X P nt ops ms (y :: x :: R) W env H k := by
  obtain ⟨a1, a2, a3⟩ := Oper.apart_spec hap
  have cm : ∀ v u, putE nt (putE nt env ox.dst v) oy.dst u = putE nt (putE nt env oy.dst u) ox.dst v := fun v u => putE_comm a2
  rcases cls_lt ox.op with cx | cx | cx | cx
  · obtain ⟨c, hc⟩ := step_pure (T := T) (X := X) (P := P) (ops := ops) cx env
    exact swap_x_pure hx hy hap (by omega) (by omega) hc hr h
  · rcases cls_lt oy.op with cy | cy | cy | cy
    · obtain ⟨c, hc⟩ := step_pure (T := T) (X := X) (P := P) (ops := ops) cy env
      exact swap_y_pure hx hy hap (by omega) (by omega) hc hr h
    · rw [denL_1 hx cx] at h
      obtain ⟨vx, hvx, h⟩ := oV_elim h
      rw [denL_1 hy cy, rdOf_congr a1] at h
      obtain ⟨vy, hvy, h⟩ := oV_elim h
      rw [denL_1 hy cy, hvy, oV_some, denL_1 hx cx, rdOf_congr a3, hvx, oV_some, ← cm]
      exact denL_W _ _ _ _ _ (fun e he => by simp only [List.mem_cons] at he ⊢; rcases he with h | h | h <;> simp [h]) hr h
    · rcases step_alloc (T := T) (X := X) (P := P) (ops := ops) cy env with ⟨c, hc⟩ | ⟨c, mk, cs, n, e, hn, hc⟩
      · exact swap_y_pure hx hy hap (by omega) (by omega) hc hr h
      · rw [denL_1 hx cx] at h
        obtain ⟨vx, hvx, h⟩ := oV_elim h
        rw [denL_0 hy (by omega) (by omega), stp_put (nt := nt) (env := env) (v := vx) a1] at h
        obtain ⟨h0, h⟩ := (hc _ _).1 h
        rw [denL_0 hy (by omega) (by omega)]
        refine (hc _ _).2 ⟨h0, fun j hj => ?_⟩
        rw [denL_1 hx cx, rdOf_congr a3, rdOf_mono _ _ _ (Le.ins _ hj) hvx, oV_some, ← cm]
        exact h j hj
    · rw [denL_1 hx cx] at h
      obtain ⟨vx, hvx, h⟩ := oV_elim h
      rw [denL_3 hy cy, stp_put (nt := nt) (env := env) (v := vx) a1] at h
      rw [denL_3 hy cy]
      refine stp_mono oy env _ _ _ hr h fun vy H' hr' hv => ?_
      rw [wCheck_iff] at hv ⊢
      refine ⟨fun e he => hv.1 e (List.mem_cons_of_mem _ he), ?_⟩
      have := hv.1 _ (List.mem_cons_self ..) hb
      simp only at this
      rw [denL_1 hx cx, rdOf_congr a3, this, oV_some, ← cm]
      exact hv.2
  · rcases step_alloc (T := T) (X := X) (P := P) (ops := ops) cx env with ⟨c, hc⟩ | ⟨c, mk, cs, n, e, hn, hc⟩
    · exact swap_x_pure hx hy hap (by omega) (by omega) hc hr h
    · rcases cls_lt oy.op with cy | cy | cy | cy
      · obtain ⟨c, hc⟩ := step_pure (T := T) (X := X) (P := P) (ops := ops) cy env
        exact swap_y_pure hx hy hap (by omega) (by omega) hc hr h
      · simp [swapC, cx, cy] at hsw
      · rcases step_alloc (T := T) (X := X) (P := P) (ops := ops) cy env with ⟨c', hc'⟩ | ⟨c', mk', cs', n', e', hn', hc'⟩
        · exact swap_y_pure hx hy hap (by omega) (by omega) hc' hr h
        · rw [denL_0 hx (by omega) (by omega)] at h
          obtain ⟨h0, h⟩ := (hc _ _).1 h
          have step : ∀ i, H i = none → c' ∧ ∀ j, hins H i (.cells cs n e true) j = none → denL T X P nt ops ms R W (putE nt (putE nt env ox.dst (mk i)) oy.dst (mk' j)) (hins (hins H i (.cells cs n e true)) j (.cells cs' n' e' true)) k := by
            intro i hi
            have h1 := h i hi
            rw [denL_0 hy (by omega) (by omega), stp_put (nt := nt) (env := env) (v := mk i) a1] at h1
            exact (hc' _ _).1 h1
          rw [denL_0 hy (by omega) (by omega)]
          obtain ⟨i0, hi0⟩ := hr.fresh
          refine (hc' _ _).2 ⟨(step i0 hi0).1, fun j hj => ?_⟩
          rw [denL_0 hx (by omega) (by omega), stp_put (nt := nt) (env := env) (v := mk' j) a3]
          refine (hc _ _).2 ⟨h0, fun i hi => ?_⟩
          obtain ⟨hne, hi⟩ := hins_none hi
          rw [← cm, ← hins_comm H _ _ hne]
          exact (step i hi).2 j (by rw [qOZ _ _ (Ne.symm hne)]; exact hj)
      · simp [swapC, cx, cy] at hsw
  · rcases cls_lt oy.op with cy | cy | cy | cy
    · obtain ⟨c, hc⟩ := step_pure (T := T) (X := X) (P := P) (ops := ops) cy env
      exact swap_y_pure hx hy hap (by omega) (by omega) hc hr h
    · simp [swapC, cx, cy] at hsw
    · rcases step_alloc (T := T) (X := X) (P := P) (ops := ops) cy env with ⟨c', hc'⟩ | ⟨c', mk', cs', n', e', hn', hc'⟩
      · exact swap_y_pure hx hy hap (by omega) (by omega) hc' hr h
      · rw [denL_3 hx cx] at h
        have step : ∀ vx H', denL T X P nt ops ms (y :: R) W (putE nt env ox.dst vx) H' k → c' ∧ ∀ j, H' j = none → denL T X P nt ops ms R W (putE nt (putE nt env ox.dst vx) oy.dst (mk' j)) (hins H' j (.cells cs' n' e' true)) k := by
          intro vx H' h1
          rw [denL_0 hy (by omega) (by omega), stp_put (nt := nt) (env := env) (v := vx) a1] at h1
          exact (hc' _ _).1 h1
        obtain ⟨vx0, H0, hr0, h0⟩ := stp_ext ox env _ _ hr h
        rw [wCheck_iff] at h0
        rw [denL_0 hy (by omega) (by omega)]
        refine (hc' _ _).2 ⟨(step vx0 H0 h0.2).1, fun j hj => ?_⟩
        rw [denL_3 hx cx, stp_put (nt := nt) (env := env) (v := mk' j) a3]
        have hf := (step_eff (T := T) (X := X) (P := P) (ops := ops) cx env).frame H _ j (.cells cs' n' e' true) h hj
        refine stp_mono ox env _ _ _ (hr.ins j cs' n' e' (hn' (step vx0 H0 h0.2).1)) hf fun vx G hrG hv => ?_
        obtain ⟨H', rfl, hj', hv⟩ := hv
        rw [wCheck_iff] at hv ⊢
        refine ⟨fun e he hb => hW e he _ _ _ (Le.ins _ hj') (hv.1 e he hb), ?_⟩
        rw [← cm]
        exact (step vx H' hv.2).2 j hj'
    · simp [swapC, cx, cy] at hsw
end
end Go.Proofs.YtchhpagkdaaglaaDoor.SL
