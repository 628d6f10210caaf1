/- Part 6 of the proof of LawSe: SlF, one behind the other. -/
import Derived.Test.YtchhpagkdaaglaaDoorSeSlE
set_option linter.unusedVariables false
set_option linter.unusedSimpArgs false
namespace Go.Proofs.YtchhpagkdaaglaaDoor.SL
open Go
section
variable {P : Program} {T : Types} {X : Externs} {w : World} {H : Heap}

theorem oV_elim {o : Option Value} {k : Value → Prop} (h : oV o k) : ∃ v, o = some v ∧ k v := by
  cases o with
  | none => exact h.elim
  | some v => exact ⟨v, rfl, h⟩
theorem oHeap_elim {o : Option Heap} {k : Heap → Prop} (h : oHeap o k) : ∃ v, o = some v ∧ k v := by
  cases o with
  | none => exact h.elim
  | some v => exact ⟨v, rfl, h⟩
theorem oT_elim {o : Option (TypeId × TI)} {k : TypeId → TI → Prop} (h : oT o k) : ∃ e te, o = some (e, te) ∧ k e te := by
  cases o with
  | none => exact h.elim
  | some v => exact ⟨v.1, v.2, rfl, h⟩

theorem fieldParts_ok (hT : TOk P T) {s : TypeId} {ρ : Operand → Value} {fields : Array Field} (hu : P.underlying s = some (.struct fields)) (g : Field → Nat) (hg : ∀ f ∈ fields.toList, ∀ ti, TIok P f.type ti → g f = ti.size) :
    ∀ (parts : List (Nat × Operand)) (ps : List ((Nat × Nat) × Value)), fieldParts T s ρ parts = some ps →
      (parts.map fun (i, x) => (i, ρ x)).map (fun p => (((fields.toList.map fun f => (f.offset, g f)).toArray[p.1]?).map fun q => (q, p.2))) = ps.map some
  | [], ps, h => by simp only [fieldParts] at h; cases h; rfl
  | p :: rest, ps, h => by
    simp only [fieldParts] at h
    obtain ⟨⟨fo, tf⟩, hq, h⟩ := Option.bind_eq_some_iff.1 h
    obtain ⟨r, hr, rfl⟩ := Option.map_eq_some_iff.1 h
    obtain ⟨ti, fs, ft, h1, h2, h3, h4⟩ := fieldOf_ok hT hq
    obtain ⟨fields', hu', rfl⟩ := h1.struct h2
    rw [hu] at hu'
    cases hu'
    rw [List.getElem?_map, Option.map_eq_some_iff] at h3
    obtain ⟨fld, hfl, he⟩ := h3
    simp only [Prod.mk.injEq] at he
    obtain ⟨rfl, rfl⟩ := he
    have ih := fieldParts_ok hT hu g hg rest r hr
    have hsz : g fld = tf.size := hg fld (List.mem_of_getElem? hfl) tf h4
    simp only [List.map_cons, List.cons.injEq]
    refine ⟨?_, ih⟩
    simp [hfl, hsz]

theorem run_opPure (hT : TOk P T) {ρ : Operand → Value} {o : Oper} {v : Value} (h : opPure T ρ o.op = some v) : (execOp ρ o).run P w = .ok (.value v) w := by
  obtain ⟨dst, op, ty, pos, after, guard⟩ := o
  simp only at h
  cases op <;> simp only [opPure] at h <;> try (cases h; done)
  case move x => cases h; simp [execOp]
  case assign x => cases h; simp [execOp]
  case pick c a b =>
    unfold pAZ at h
    split at h
    · rename_i b' hb
      cases h
      simp [execOp, hb, asBool]
    · cases h
  case nilCheck x =>
    unfold vNil at h
    split at h
    · rename_i a hx
      cases h
      simp [execOp, hx]
    · rename_i fn b c hx
      cases fn <;> simp only at h <;> (try (cases h; done))
      cases h
      simp [execOp, hx]
    · cases h
  case binOp op xt x y yt =>
    obtain ⟨ti, hti, h⟩ := Option.bind_eq_some_iff.1 h
    have := run_vBinT (P := P) (w := w) (x := x) (y := y) (hT xt ti hti) h
    simp only [execOp, Sem.run_bind] at this ⊢
    simp [this]
  case unOp op xt x =>
    have := run_vUn (P := P) (w := w) h
    simp [execOp, this]
  case convert s d x =>
    obtain ⟨ts, hts, h⟩ := Option.bind_eq_some_iff.1 h
    obtain ⟨td, htd, h⟩ := Option.bind_eq_some_iff.1 h
    have := run_vConv (P := P) (w := w) (hT _ _ hts) (hT _ _ htd) h
    simp [execOp, this]
  case build t parts =>
    obtain ⟨ti, hti, h⟩ := Option.bind_eq_some_iff.1 h
    have hok := hT t ti hti
    split at h
    · rename_i fs hk
      split at h
      case isFalse => cases h
      rename_i hallB
      obtain ⟨ps, hps, h⟩ := Option.bind_eq_some_iff.1 h
      obtain ⟨cs, hcs, rfl⟩ := Option.map_eq_some_iff.1 h
      obtain ⟨fields, hu, rfl⟩ := hok.struct hk
      let g : Field → Nat := fun f => match (sizeOf f.type).run P w with | .ok n _ => n | .halt _ _ => 0
      have hall : ∀ f ∈ fields.toList, ∃ n, (sizeOf f.type).run P w = .ok n w := by
        intro f hf
        have h1 := List.all_eq_true.1 hallB (f.offset, f.type) (List.mem_map.2 ⟨f, hf, rfl⟩)
        obtain ⟨tf, htf⟩ := Option.isSome_iff_exists.1 h1
        exact ⟨_, (hT _ _ htf).run_size w⟩
      have hm : (fields.mapM (fun f => do pure (f.offset, ← sizeOf f.type) : Field → Sem (Nat × Nat))).run P w = .ok (fields.toList.map fun f => (f.offset, g f)).toArray w := by
        rw [Array.mapM_eq_mapM_toList]
        simp only [Sem.run_map]
        rw [run_mapM (P := P) (w := w) _ (fun f => (f.offset, g f))]
        · simp
        · intro f hf
          obtain ⟨n, hn⟩ := hall f hf
          have hg : g f = n := by simp only [g, hn]
          simp [hn, hg]
      have hf := fieldParts_ok hT hu g (fun f hf ti hti => by simp only [g, hti.run_size]) parts.toList ps hps
      have hfl := fill_ok (fun i => (fields.toList.map fun f => (f.offset, g f)).toArray[i]?) _ ps ti.zero.cells cs hf hcs
      have hfl2 : Instr.fill (fun i => (fields.toList.map fun f => (f.offset, g f)).toArray[i]?) ti.zero.cells (parts.map fun (i, x) => (i, ρ x)).toList = some cs.toArray := by
        rw [Array.toList_map]; exact hfl
      simp only [execOp, Instr.build, Sem.run_bind, hok.run_zero, Result.andThen_ok, run_underlying hu, hm, hfl2, Sem.run_pure]
    · rename_i n e hk
      obtain ⟨te, hte, h⟩ := Option.bind_eq_some_iff.1 h
      obtain ⟨cs, hcs, rfl⟩ := Option.map_eq_some_iff.1 h
      have hu := hok.array hk
      have hfl := fill_ok (fun i => some (i * te.size, te.size)) (parts.toList.map fun (i, x) => (i, ρ x)) (partsOf te.size ρ parts.toList) ti.zero.cells cs (by simp [partsOf]) hcs
      have hfl2 : Instr.fill (fun i => some (i * te.size, te.size)) ti.zero.cells (parts.map fun (i, x) => (i, ρ x)).toList = some cs.toArray := by
        rw [Array.toList_map]; exact hfl
      simp only [execOp, Instr.build, Sem.run_bind, hok.run_zero, Result.andThen_ok, run_underlying hu, (hT e te hte).run_size, hfl2, Sem.run_pure]
    · cases h
  case makeFunc fn f c => cases h; simp [execOp, Instr.makeFunc]
  case slice t x lo hi mx =>
    obtain ⟨⟨e, te⟩, hq, h⟩ := Option.bind_eq_some_iff.1 h
    obtain ⟨ti, h1, h2, h3⟩ := elemOfT_ok hT hq
    have := run_vSlice (P := P) (w := w) h1 h2 h3 h
    simp [execOp, this]
  case fieldAddr s x f =>
    obtain ⟨⟨fo, tf⟩, hq, h⟩ := Option.bind_eq_some_iff.1 h
    split at h
    · cases h
    · rename_i hz
      obtain ⟨ti, fs, ft, h1, h2, h3, h4⟩ := fieldOf_ok hT hq
      have := run_vField (P := P) (w := w) h1 h2 h3 h4 hz h
      simp [execOp, this]
  case field s x f =>
    obtain ⟨⟨fo, tf⟩, hq, h⟩ := Option.bind_eq_some_iff.1 h
    obtain ⟨ti, fs, ft, h1, h2, h3, h4⟩ := fieldOf_ok hT hq
    have := run_vFieldV (P := P) (w := w) h1 h2 h3 h4 h
    simp [execOp, this]
  case indexAddr t x ix =>
    obtain ⟨ti, hti, h⟩ := Option.bind_eq_some_iff.1 h
    have hok := hT t ti hti
    split at h
    · rename_i e hk
      obtain ⟨te, hte, h⟩ := Option.bind_eq_some_iff.1 h
      have := run_vIdxS (P := P) (w := w) hok hk (hT e te hte) h
      simp [execOp, this]
    · rename_i n e hk
      obtain ⟨te, hte, h⟩ := Option.bind_eq_some_iff.1 h
      have := run_vIdxA (P := P) (w := w) hok hk (hT e te hte) h
      simp [execOp, this]
    · cases h
  case index t x ix =>
    obtain ⟨ti, hti, h⟩ := Option.bind_eq_some_iff.1 h
    have hok := hT t ti hti
    split at h
    · rename_i n e hk
      obtain ⟨te, hte, h⟩ := Option.bind_eq_some_iff.1 h
      have := run_vIndexA (P := P) (w := w) hok hk (hT e te hte) h
      simp [execOp, this]
    · rename_i hk
      have := run_vIndexStr (P := P) (w := w) hok hk h
      simp [execOp, this]
    · cases h
  case extract x i =>
    have := run_vExtract (P := P) (w := w) h
    simp [execOp, this]
  case call c =>
    obtain ⟨callee, args, argTypes⟩ := c
    split at h
    · rename_i x t hc ha ht
      simp only at hc ha ht
      subst hc
      obtain rfl : args = #[x] := by rw [← Array.toList_inj]; exact ha
      obtain rfl : argTypes = #[t] := by rw [← Array.toList_inj]; exact ht
      obtain ⟨ti, hti, h⟩ := Option.bind_eq_some_iff.1 h
      have hok := hT t ti hti
      split at h
      · rename_i e hk
        have := run_vLen (P := P) (w := w) (ty := ty) hok hk h
        simp [execOp, resolve, invoke, builtin, this]
      · rename_i hk
        have := run_vLenStr (P := P) (w := w) (ty := ty) hok hk h
        simp [execOp, resolve, invoke, builtin, this]
      · cases h
    · rename_i x y hc ha
      simp only at hc ha
      subst hc
      obtain rfl : args = #[x, y] := by rw [← Array.toList_inj]; exact ha
      have := run_vMax (P := P) (w := w) (ts := argTypes) (ty := ty) h
      simp [execOp, resolve, invoke, builtin, this]
    · rename_i x y hc ha
      simp only at hc ha
      subst hc
      obtain rfl : args = #[x, y] := by rw [← Array.toList_inj]; exact ha
      have := run_vMin (P := P) (w := w) (ts := argTypes) (ty := ty) h
      simp [execOp, resolve, invoke, builtin, this]
    · cases h
end
end Go.Proofs.YtchhpagkdaaglaaDoor.SL
