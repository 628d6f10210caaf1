/- Part 10 of the proof of LawSe: SlJ, one behind the other. -/
import Derived.Test.YtchhpagkdaaglaaDoorSeSlI
set_option linter.unusedVariables false
set_option linter.unusedSimpArgs false
namespace Go.Proofs.YtchhpagkdaaglaaDoor.SL
open Go
section
variable {P : Program} {T : Types} {X : Externs} {nt : Nat}

theorem rd_length {size m : Nat} {b : Option Addr} {H : Heap} {cs : List Value} (h : rdSlice size H b m = some cs) : cs.length = m * size := by
  unfold rdSlice at h
  split at h
  · rename_i hm; cases h; simp [hm]
  · split at h
    · unfold rdCells at h
      split at h
      · split at h
        · cases h; simp; omega
        · cases h
      · cases h
    · cases h
theorem rdSlice_mono {size m : Nat} {b : Option Addr} {H G : Heap} {cs : List Value} (hl : Le H G) (h : rdSlice size H b m = some cs) : rdSlice size G b m = some cs := by
  unfold rdSlice at h ⊢
  split at h
  · rename_i hm
    rw [if_pos hm]
    exact h
  · rename_i hm
    rw [if_neg hm]
    split at h
    · unfold rdCells at h ⊢
      split at h
      · rename_i hi
        rw [hl _ _ hi]
        exact h
      · cases h
    · cases h
theorem stCells_length {ti : TI} {cs cs' : List Value} {off : Nat} {v : Value} (h : stCells ti cs off v = some cs') : cs'.length = cs.length := by
  unfold stCells at h
  split at h
  · split at h
    · split at h
      · rename_i hb
        cases h
        rw [length_splice _ _ _ (by omega)]
        simp only [Array.length_toList]
        omega
      · cases h
    · cases h
  · split at h
    · cases h; simp
    · cases h

def FrameQ (i : Nat) (b : Blk) (k : Value → Heap → Prop) : Value → Heap → Prop := fun v G => ∃ H', G = hins H' i b ∧ H' i = none ∧ k v H'

theorem qVZ.frame {f : FuncId} {args : List Value} {H : Heap} {k : Value → Heap → Prop} {i : Nat} {b : Blk} (h : qVZ P f args H (endK k noP)) (hi : H i = none) : qVZ P f args (hins H i b) (endK (FrameQ i b k) noP) := by
  refine ⟨h.1, fun w hs => ?_⟩
  obtain ⟨o, ho, hbo⟩ := hs i b (hins_self H i b)
  have hlt := hs.lt (hins_self H i b)
  refine (h.2 w (hs.le (Le.ins b hi))).mono ?_
  rintro e w' ⟨H', h1, h2, h3⟩
  have hi' : H' i = none := by
    cases he : H' i with
    | none => rfl
    | some c =>
      rcases h2.fresh i (by rw [he]; simp) with h4 | h4
      · exact absurd hi h4
      · omega
  refine ⟨hins H' i b, ?_, ?_, ?_⟩
  · intro j c hc
    by_cases e1 : j = i
    · subst e1
      rw [hins_self] at hc
      cases hc
      exact ⟨o, by rw [h2.old j hlt hi]; exact ho, hbo⟩
    · rw [qOZ _ _ e1] at hc
      exact h1 j c hc
  · refine ⟨h2.os, h2.tape, h2.output, h2.size, fun j hj hn => h2.old j hj (hins_none hn).2, fun j hj => ?_, fun j hj hro => ?_⟩
    · by_cases e1 : j = i
      · subst e1; exact .inl (by simp)
      · rw [qOZ _ _ e1] at hj ⊢
        exact h2.fresh j hj
    · obtain ⟨cs, n, e, hc⟩ := hro
      by_cases e1 : j = i
      · subst e1
        rw [hins_self] at hc
        exact ⟨h2.old j hj hi, .inr ⟨cs, n, e, by rw [hins_self]; exact hc⟩⟩
      · rw [qOZ _ _ e1] at hc
        obtain ⟨g1, g2⟩ := h2.ro j hj ⟨cs, n, e, hc⟩
        refine ⟨g1, ?_⟩
        unfold RO
        rw [qOZ _ _ e1]
        exact g2
  · cases e with
    | returned v => exact ⟨H', rfl, hi', h3⟩
    | panicked c => exact h3.elim
    | outgrown => exact h3.elim

theorem oRoom_frame {size p : Nat} {sb : Option Addr} {new : List Value} {H : Heap} {k : Heap → Prop} {i : Nat} {b : Blk} (h : oRoom size sb p new H k) (hi : H i = none) :
    oRoom size sb p new (hins H i b) fun G => ∃ H', G = hins H' i b ∧ H' i = none ∧ k H' := by
  unfold oRoom at h ⊢
  split at h
  · rename_i hn
    rw [if_pos hn]
    exact ⟨H, rfl, hi, h⟩
  · rename_i hn
    rw [if_neg hn]
    split at h
    · rename_i j off
      split at h
      · rename_i cs n e hj
        obtain ⟨h1, h2, h3⟩ := h
        simp only [hins_get hi hj]
        have hne : j ≠ i := fun e => by subst e; rw [hi] at hj; cases hj
        refine ⟨h1, h2, _, hins_comm H _ _ (Ne.symm hne), ?_, h3⟩
        rw [qOZ _ _ (Ne.symm hne)]
        exact hi
      · cases h
    · cases h
theorem opW_frame {op : Op} (hc : cls op = 3) {ρ : Operand → Value} {H : Heap} {k : Value → Heap → Prop} {i : Nat} {b : Blk} (h : opW T X P ρ op H k noP) (hi : H i = none) :
    opW T X P ρ op (hins H i b) (FrameQ i b k) noP := by
  cases op <;> simp only [cls] at hc <;> (try (cases hc; done))
  case store t x v =>
    simp only [opW] at h ⊢
    obtain ⟨H', hv, hk⟩ := oHeap_elim h
    obtain ⟨ti, hti, hv⟩ := Option.bind_eq_some_iff.1 hv
    unfold p2Z at hv
    split at hv
    · rename_i ji off hx
      split at hv
      · rename_i cs n e hj
        obtain ⟨cs', hcs, rfl⟩ := Option.map_eq_some_iff.1 hv
        have hne : ji ≠ i := fun e => by subst e; rw [hi] at hj; cases hj
        have : p2Z ti (.pointer (some ⟨ji, off, none⟩)) (ρ v) (hins H i b) = some (hins (hins H i b) ji (.cells cs' n e true)) := by
          simp only [p2Z, hins_get hi hj, hcs, Option.map_some]
        rw [hti, Option.bind_some, hx, this]
        refine ⟨_, hins_comm H _ _ (Ne.symm hne), ?_, hk⟩
        rw [qOZ _ _ (Ne.symm hne)]
        exact hi
      · cases hv
    · cases hv
  case call c =>
    obtain ⟨callee, args, ts⟩ := c
    cases callee <;> simp only at hc <;> (try (cases hc; done))
    case value f =>
      simp only [opW] at h ⊢
      unfold oCall at h ⊢
      split at h
      · split at h
        · obtain ⟨v, hv, hk⟩ := oV_elim h
          rw [hv]
          exact ⟨H, rfl, hi, hk⟩
        · exact h.frame hi
      · cases h
    case builtin bi =>
      cases bi <;> simp only at hc <;> (try (cases hc; done))
      case append =>
        simp only [opW] at h ⊢
        split at h
        · split at h
          · rename_i htt
            rw [if_pos htt]
            obtain ⟨e, te, hq, h⟩ := oT_elim h
            rw [hq]
            simp only [oT]
            split at h
            · rename_i hz
              rw [if_pos hz]
              unfold p4Z at h ⊢
              split at h
              · obtain ⟨old, new, h1, h2, h3, h4, h5, h6, h7⟩ := h
                refine ⟨old, new, rdSlice_mono (Le.ins b hi) h1, rdSlice_mono (Le.ins b hi) h2, h3, h4, h5, fun hr => oRoom_frame (h6 hr) hi, fun hr j c hj hc1 hc2 => ?_⟩
                obtain ⟨hne, hj⟩ := hins_none hj
                refine ⟨_, hins_comm H _ _ (Ne.symm hne), ?_, h7 hr j c hj hc1 hc2⟩
                rw [qOZ _ _ (Ne.symm hne)]
                exact hi
              · cases h
            · cases h
          · cases h
        · cases h
      case copy =>
        simp only [opW] at h ⊢
        split at h
        · obtain ⟨e, te, hq, h⟩ := oT_elim h
          rw [hq]
          simp only [oT]
          unfold oCopy at h ⊢
          split at h
          · obtain ⟨new, h1, h2, h3⟩ := h
            exact ⟨new, rdSlice_mono (Le.ins b hi) h1, h2, oRoom_frame h3 hi⟩
          · cases h
        · cases h

theorem Real.ins' {H : Heap} (h : Real H) {i n : Nat} {cs cs' : List Value} {e : TypeId} {wr : Bool} (hi : H i = some (.cells cs n e wr)) (hl : cs'.length ≤ n) : Real (hins H i (.cells cs' n e true)) := h.ins i cs' n e hl
theorem Real.len {H : Heap} (h : Real H) {i n : Nat} {cs : List Value} {e : TypeId} {wr : Bool} (hi : H i = some (.cells cs n e wr)) : cs.length ≤ n := by
  obtain ⟨w, hs⟩ := h
  exact hs.len hi
theorem oRoom_mono {size p : Nat} {sb : Option Addr} {new : List Value} {H : Heap} {k k' : Heap → Prop} (hr : Real H) (h : oRoom size sb p new H k) (hk : ∀ H', Real H' → k H' → k' H') : oRoom size sb p new H k' := by
  unfold oRoom at h ⊢
  split at h
  · rename_i hn
    rw [if_pos hn]
    exact hk H hr h
  · rename_i hn
    rw [if_neg hn]
    split at h
    · rename_i j off
      split at h
      · rename_i cs n e hj
        obtain ⟨h1, h2, h3⟩ := h
        refine ⟨h1, h2, hk _ (hr.ins j _ n e ?_) h3⟩
        rw [length_splice _ _ _ h1]
        have := hr.len hj
        omega
      · cases h
    · cases h
theorem oRoom_ext {size p : Nat} {sb : Option Addr} {new : List Value} {H : Heap} {k : Heap → Prop} (hr : Real H) (h : oRoom size sb p new H k) : ∃ H', Real H' ∧ k H' := by
  unfold oRoom at h
  split at h
  · exact ⟨H, hr, h⟩
  · split at h
    · rename_i j off
      split at h
      · rename_i cs n e hj
        obtain ⟨h1, h2, h3⟩ := h
        refine ⟨_, hr.ins j _ n e ?_, h3⟩
        rw [length_splice _ _ _ h1]
        have := hr.len hj
        omega
      · cases h
    · cases h
theorem opW_mono3 {op : Op} (hc : cls op = 3) {ρ : Operand → Value} {H : Heap} {k k' : Value → Heap → Prop} (hr : Real H) (h : opW T X P ρ op H k noP) (hk : ∀ v H', Real H' → k v H' → k' v H') :
    opW T X P ρ op H k' noP := by
  cases op <;> simp only [cls] at hc <;> (try (cases hc; done))
  case store t x v =>
    simp only [opW] at h ⊢
    obtain ⟨H', hv, hk1⟩ := oHeap_elim h
    rw [hv]
    obtain ⟨ti, hti, hv⟩ := Option.bind_eq_some_iff.1 hv
    unfold p2Z at hv
    split at hv
    · split at hv
      · rename_i cs n e hj
        obtain ⟨cs', hcs, rfl⟩ := Option.map_eq_some_iff.1 hv
        exact hk _ _ (hr.ins' hj (by rw [stCells_length hcs]; exact hr.len hj)) hk1
      · cases hv
    · cases hv
  case call c =>
    obtain ⟨callee, args, ts⟩ := c
    cases callee <;> simp only at hc <;> (try (cases hc; done))
    case value f =>
      simp only [opW] at h ⊢
      unfold oCall at h ⊢
      split at h
      · split at h
        · exact oV_mono h fun v => hk v H hr
        · refine ⟨h.1, fun w hs => (h.2 w hs).mono ?_⟩
          rintro e w' ⟨H', h1, h2, h3⟩
          refine ⟨H', h1, h2, ?_⟩
          cases e with
          | returned v => exact hk v H' ⟨w', h1⟩ h3
          | panicked c => exact h3.elim
          | outgrown => exact h3.elim
      · cases h
    case builtin bi =>
      cases bi <;> simp only at hc <;> (try (cases hc; done))
      case append =>
        simp only [opW] at h ⊢
        split at h
        · split at h
          · rename_i htt
            rw [if_pos htt]
            obtain ⟨e, te, hq, h⟩ := oT_elim h
            rw [hq]
            simp only [oT]
            split at h
            · rename_i hz
              rw [if_pos hz]
              unfold p4Z at h ⊢
              split at h
              · obtain ⟨old, new, h1, h2, h3, h4, h5, h6, h7⟩ := h
                refine ⟨old, new, h1, h2, h3, h4, h5, fun hh => oRoom_mono hr (h6 hh) fun H' => hk _ H', fun hh j c hj hc1 hc2 => hk _ _ (hr.ins j _ _ e ?_) (h7 hh j c hj hc1 hc2)⟩
                rw [List.length_append, rd_length h1, rd_length h2, ← Nat.add_mul]
                exact Nat.mul_le_mul_right _ hc1
              · cases h
            · cases h
          · cases h
        · cases h
      case copy =>
        simp only [opW] at h ⊢
        split at h
        · obtain ⟨e, te, hq, h⟩ := oT_elim h
          rw [hq]
          simp only [oT]
          unfold oCopy at h ⊢
          split at h
          · obtain ⟨new, h1, h2, h3⟩ := h
            exact ⟨new, h1, h2, oRoom_mono hr h3 fun H' => hk _ H'⟩
          · cases h
        · cases h
theorem opW_ext3 {op : Op} (hc : cls op = 3) {ρ : Operand → Value} {H : Heap} {k : Value → Heap → Prop} (hr : Real H) (h : opW T X P ρ op H k noP) : ∃ v H', Real H' ∧ k v H' := by
  cases op <;> simp only [cls] at hc <;> (try (cases hc; done))
  case store t x v =>
    simp only [opW] at h
    obtain ⟨H', hv, hk1⟩ := oHeap_elim h
    obtain ⟨ti, hti, hv⟩ := Option.bind_eq_some_iff.1 hv
    unfold p2Z at hv
    split at hv
    · split at hv
      · rename_i cs n e hj
        obtain ⟨cs', hcs, rfl⟩ := Option.map_eq_some_iff.1 hv
        exact ⟨_, _, hr.ins' hj (by rw [stCells_length hcs]; exact hr.len hj), hk1⟩
      · cases hv
    · cases hv
  case call c =>
    obtain ⟨callee, args, ts⟩ := c
    cases callee <;> simp only at hc <;> (try (cases hc; done))
    case value f =>
      simp only [opW] at h
      unfold oCall at h
      split at h
      · split at h
        · obtain ⟨v, _, hk⟩ := oV_elim h
          exact ⟨v, H, hr, hk⟩
        · obtain ⟨w, hs⟩ := hr
          obtain ⟨e, w', fr, ⟨H', h1, h2, h3⟩, _⟩ := h.2 w hs []
          cases e with
          | returned v => exact ⟨v, H', ⟨w', h1⟩, h3⟩
          | panicked c => exact h3.elim
          | outgrown => exact h3.elim
      · cases h
    case builtin bi =>
      cases bi <;> simp only at hc <;> (try (cases hc; done))
      case append =>
        simp only [opW] at h
        split at h
        · split at h
          · obtain ⟨e, te, hq, h⟩ := oT_elim h
            split at h
            · unfold p4Z at h
              split at h
              · rename_i sb sl sc xb xl xc hq1 hq2
                obtain ⟨old, new, h1, h2, h3, h4, h5, h6, h7⟩ := h
                by_cases hh : sl + xl ≤ sc
                · obtain ⟨H', h8, h9⟩ := oRoom_ext hr (h6 hh)
                  exact ⟨_, H', h8, h9⟩
                · obtain ⟨j, hj⟩ := hr.fresh
                  refine ⟨_, _, hr.ins j _ _ e ?_, h7 (by omega) j (sl + xl) hj (Nat.le_refl _) h5⟩
                  rw [List.length_append, rd_length h1, rd_length h2, ← Nat.add_mul]
                  exact Nat.le_refl _
              · cases h
            · cases h
          · cases h
        · cases h
      case copy =>
        simp only [opW] at h
        split at h
        · obtain ⟨e, te, hq, h⟩ := oT_elim h
          unfold oCopy at h
          split at h
          · obtain ⟨new, h1, h2, h3⟩ := h
            obtain ⟨H', h8, h9⟩ := oRoom_ext hr h3
            exact ⟨_, H', h8, h9⟩
          · cases h
        · cases h

structure IsEff (S : Stp) : Prop where
  mono : Mono S
  ext : Ext S
  frame : ∀ H k i b, S H k → H i = none → S (hins H i b) (FrameQ i b k)
theorem IsPure.eff {S : Stp} {c : Option Value} (h : IsPure S c) : IsEff S := ⟨h.mono, h.ext, fun H k i b hS hi => (h _ _).2 (oV_mono ((h _ _).1 hS) fun v hk => ⟨H, rfl, hi, hk⟩)⟩
theorem step_eff {ops : Array Oper} {o : Oper} (hc : cls o.op = 3) (env : Env) : IsEff (fun H k => opGv T X P ops o env H k noP) := by
  have h0 : IsEff (fun H k => opW T X P (evE env) o.op H k noP) := ⟨fun H k k' hr h hk => opW_mono3 hc hr h hk, fun H k hr h => opW_ext3 hc hr h, fun H k i b h hi => opW_frame hc h hi⟩
  unfold opGv
  cases o.guard with
  | none => exact h0
  | some q =>
    obtain ⟨j, want⟩ := q
    show IsEff fun H k => gK (guardV ops env j) want (opW T X P (evE env) o.op H k noP) (k undef H)
    cases guardV ops env j with
    | bool b =>
      by_cases hb : b = want
      · have : (fun H (k : Value → Heap → Prop) => gK (.bool b) want (opW T X P (evE env) o.op H k noP) (k undef H)) = fun H k => opW T X P (evE env) o.op H k noP := by
          funext H k
          simp [gK, hb]
        rw [this]
        exact h0
      · exact IsPure.eff (c := some undef) fun H k => by simp [gK, hb]
    | _ => exact IsPure.eff (c := some undef) fun H k => by simp [gK]
end
end Go.Proofs.YtchhpagkdaaglaaDoor.SL
