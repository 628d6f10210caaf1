/- Part 7 of the proof of LawSe: SlG, one behind the other. -/
import Derived.Test.YtchhpagkdaaglaaDoorSeSlF
set_option linter.unusedVariables false
set_option linter.unusedSimpArgs false
namespace Go.Proofs.YtchhpagkdaaglaaDoor.SL
open Go
section
variable {P : Program} {T : Types} {X : Externs} {w : World} {H : Heap} {nt : Nat} {env : Env} {a : Act} {k : Env → Heap → Prop} {p : List PanicEntry → Heap → Prop}
  {K : Act → World → Prop} {Q : Exit → Act → World → Prop} {o : Oper}

theorem wp_value {v : Value} {w' : World} {H' : Heap} (he : EnvOk nt env a) (hr : (execOp a.eval o).run P w = .ok (.value v) w') (h1 : Sat H' w') (h2 : Keeps H w H' w') (h3 : k (putE nt env o.dst v) H')
    (hK : ∀ env' H' a' w', EnvOk nt env' a' → Sat H' w' → Keeps H w H' w' → k env' H' → K a' w') : o.wp P a w K Q := by
  unfold Oper.wp
  rw [hr]
  exact hK _ _ _ _ (he.put o.dst v) h1 h2 h3

theorem op_wp (hT : TOk P T) (hX : XOk P X) (h : opW T X P (evE env) o.op H (fun v H' => k (putE nt env o.dst v) H') p) (hs : Sat H w) (he : EnvOk nt env a)
    (hK : ∀ env' H' a' w', EnvOk nt env' a' → Sat H' w' → Keeps H w H' w' → k env' H' → K a' w')
    (hp : ∀ c H' w', Sat H' w' → Keeps H w H' w' → p c H' → Q (.panic c) a w') : o.wp P a w K Q := by
  have hev := he.eval
  have pure_ : ∀ {op : Op}, o.op = op → oV (opPure T (evE env) op) (fun v => k (putE nt env o.dst v) H) → o.wp P a w K Q := by
    intro op ho h
    subst ho
    obtain ⟨v, hv, hk⟩ := oV_elim h
    exact wp_value he (by rw [hev]; exact run_opPure hT hv) hs (Keeps.refl _ _) hk hK
  obtain ⟨dst, op, ty, pos, after, guard⟩ := o
  simp only at h pure_
  cases op
  case load t x =>
    simp only [opW] at h
    obtain ⟨v, hv, hk⟩ := oV_elim h
    obtain ⟨ti, hti, hv⟩ := Option.bind_eq_some_iff.1 hv
    have := run_vLoad (P := P) (hT t ti hti) hs hv
    exact wp_value he (by rw [hev]; simp [execOp, this]) hs (Keeps.refl _ _) hk hK
  case store t x y =>
    simp only [opW] at h
    obtain ⟨H', hv, hk⟩ := oHeap_elim h
    obtain ⟨ti, hti, hv⟩ := Option.bind_eq_some_iff.1 hv
    obtain ⟨w', hr, h1, h2⟩ := run_vStore (P := P) (hT t ti hti) hs hv
    unfold Oper.wp
    rw [hev]
    have : (execOp (evE env) ⟨dst, .store t x y, ty, pos, after, guard⟩).run P w = .ok .skip w' := by simp [execOp, hr]
    rw [this]
    exact hK _ _ _ _ (he.put dst undef) h1 h2 hk
  case alloc e =>
    simp only [opW] at h
    obtain ⟨e', te, hq, h⟩ := oT_elim h
    obtain ⟨te', hte, hq⟩ := Option.map_eq_some_iff.1 hq
    simp only [Prod.mk.injEq] at hq
    obtain ⟨rfl, rfl⟩ := hq
    have hok := hT _ _ hte
    obtain ⟨H', hk, h1, h2⟩ := new_sat hs h te'.zero.cells (by simp) List.take_length
    refine wp_value he (v := qTZ w.heap.size) ?_ h1 h2 hk hK
    rw [hev]
    simp [execOp, Instr.alloc, hok.run_zero, newVar, newRow, qTZ]
  case box e x =>
    simp only [opW] at h
    obtain ⟨H', hk, h1, h2⟩ := new_sat hs h (evE env x).cells (by simp) List.take_length
    refine wp_value he (v := qTZ w.heap.size) ?_ h1 h2 hk hK
    rw [hev]
    simp [execOp, Instr.box, newVar, newRow, qTZ]
  case buildSlice t len parts =>
    simp only [opW] at h
    obtain ⟨e, te, hq, h⟩ := oT_elim h
    obtain ⟨ti, g1, g2, g3⟩ := elemOfT_ok hT hq
    split at h
    case isFalse => exact h.elim
    rename_i hb
    obtain ⟨hz, hsz⟩ := hb
    unfold p3Z at h
    split at h
    case h_2 => exact h.elim
    rename_i cs hcs
    have hu := g1.slice g2
    let z : Array Value := if len * te.size = 0 then #[] else te.zero.cells
    have hzz : (Array.map (fun x => z[x % z.size]!) (Array.range (len * te.size))).toList = zerosL te len := by
      by_cases h0 : len * te.size = 0
      · have e1 : zerosL te len = [] := by
          unfold zerosL
          apply List.eq_nil_of_length_eq_zero
          simp [hz, h0]
        rw [e1, h0]; simp
      · have : z = te.zero.cells := by simp only [z, if_neg h0]
        rw [this]
        exact zeros_eq _ len te.size hz
    have hfl := fill_ok (fun i => some (i * te.size, te.size)) (parts.toList.map fun (i, x) => (i, evE env x)) (partsOf te.size (evE env) parts.toList) (Array.map (fun x => z[x % z.size]!) (Array.range (len * te.size))) cs (by simp [partsOf]) (by rw [hzz]; exact hcs)
    have hlen : cs.length = len * te.size := by
      have : ∀ (ps : List ((Nat × Nat) × Value)) (l l' : List Value), fillL l ps = some l' → l'.length = l.length := by
        intro ps
        induction ps with
        | nil => intro l l' h; simp only [fillL] at h; cases h; rfl
        | cons q ps ih =>
          intro l l' h
          simp only [fillL] at h
          split at h
          · rename_i hb
            rw [ih _ _ h, length_splice _ _ _ (by omega)]
            simp only [Array.length_toList]
            omega
          · cases h
      rw [this _ _ _ hcs]
      simp [zerosL, hz]
    obtain ⟨H', hk, h1, h2⟩ := new_sat hs h cs.toArray (by simpa using hlen) (by simp)
    refine wp_value he (v := .slice (some ⟨w.heap.size, 0, none⟩) len len) ?_ h1 h2 hk hK
    rw [hev]
    have hfl2 : Instr.fill (fun i => some (i * te.size, te.size)) (Array.map (fun x => z[x % z.size]!) (Array.range (len * te.size))) (parts.map fun (i, x) => (i, evE env x)).toList = some cs.toArray := by
      rw [Array.toList_map]; exact hfl
    have hns : ¬ (len * te.size > 2 ^ 24) := by omega
    by_cases h0 : len * te.size = 0
    · have : z = #[] := by simp only [z, if_pos h0]
      rw [this] at hfl2
      simp only [execOp, Instr.buildSlice, Sem.run_bind, run_underlying hu, Result.andThen_ok, g3.run_size, if_neg hns, if_pos h0, Sem.run_pure, hfl2, newRow, run_newObj]
      rfl
    · have : z = te.zero.cells := by simp only [z, if_neg h0]
      rw [this] at hfl2
      simp only [execOp, Instr.buildSlice, Sem.run_bind, run_underlying hu, Result.andThen_ok, g3.run_size, if_neg hns, if_neg h0, Sem.run_pure, g3.run_zero, hfl2, newRow, run_newObj]
      rfl
  case makeSlice t l c =>
    simp only [opW] at h
    obtain ⟨e, te, hq, h⟩ := oT_elim h
    obtain ⟨ti, g1, g2, g3⟩ := elemOfT_ok hT hq
    split at h
    case isFalse => exact h.elim
    rename_i hz
    unfold oMake at h
    split at h
    case h_2 => exact h.elim
    rename_i kl l' kc c' hl hc
    obtain ⟨⟨hb0, hb1, hb2, hb3⟩, h⟩ := h
    have hu := g1.slice g2
    obtain ⟨i, hi, hz0, hsz, hby⟩ := g3.info
    obtain ⟨l, rfl⟩ := Int.eq_ofNat_of_zero_le hb0
    obtain ⟨c, rfl⟩ := Int.eq_ofNat_of_zero_le (Int.le_trans hb0 hb1)
    simp only [Int.toNat_natCast] at h
    let z : Array Value := if c * te.size = 0 then #[] else te.zero.cells
    have hzz : (Array.map (fun x => z[x % z.size]!) (Array.range (c * te.size))).toList = zerosL te c := by
      by_cases h0 : c * te.size = 0
      · have e1 : zerosL te c = [] := by
          unfold zerosL
          apply List.eq_nil_of_length_eq_zero
          simp [hz, h0]
        rw [e1, h0]; simp
      · have : z = te.zero.cells := by simp only [z, if_neg h0]
        rw [this]
        exact zeros_eq _ c te.size hz
    obtain ⟨H', hk, h1, h2⟩ := new_sat hs h (Array.map (fun x => z[x % z.size]!) (Array.range (c * te.size))) (by simp) (by rw [hzz]; simp)
    refine wp_value he (v := .slice (some ⟨w.heap.size, 0, none⟩) l c) ?_ h1 h2 hk hK
    rw [hev]
    have wl : IntKind.i64.wrap (l : Int) = l := by
      unfold IntKind.wrap
      simp [IntKind.bits, IntKind.signed, Int.bmod]
      omega
    have wc : IntKind.i64.wrap (c : Int) = c := by
      unfold IntKind.wrap
      simp [IntKind.bits, IntKind.signed, Int.bmod]
      omega
    have hb3' : ¬ (281474976710656 < (i.bytes : Int) * c) := by rw [hby]; omega
    have hnl : ¬ ((l : Int) < 0) := by omega
    have hnc : ¬ ((c : Int) < 0) := by omega
    have hlc : ¬ ((c : Int) < (l : Int)) := by omega
    by_cases h0 : c * te.size = 0
    · have hz' : z = #[] := by simp only [z, if_pos h0]
      rw [hz'] at h1 h2 ⊢
      simp [execOp, Instr.makeSlice, run_underlying hu, asInt, asIntOf, hl, hc, typeInfo, hi, wl, wc, hb3', hnl, hnc, hlc, Go.sizeOf, hsz, h0, newRow]
    · have hz' : z = te.zero.cells := by simp only [z, if_neg h0]
      rw [hz'] at h1 h2 ⊢
      simp [execOp, Instr.makeSlice, run_underlying hu, asInt, asIntOf, hl, hc, typeInfo, hi, wl, wc, hb3', hnl, hnc, hlc, Go.sizeOf, hsz, h0, newRow, zeroValue, hz0]
  case call c =>
    obtain ⟨callee, args, argTypes⟩ := c
    cases callee with
    | invoke r m => exact pure_ rfl h
    | value f =>
      simp only [opW] at h
      unfold oCall at h
      split at h
      case h_2 => exact h.elim
      rename_i fid first cap hf
      have hargs : ((first ++ args.map (evE env)) ++ cap) = (first.toList ++ args.toList.map (evE env) ++ cap.toList).toArray := by
        apply Array.ext'
        simp
      have hres : (resolve (evE env) { callee := .value f, args, argTypes } ty).run P w = .ok { target := .fn (.func fid) cap, args := first ++ args.map (evE env) } w := by
        simp [resolve, hf, Deferred.ofValue]
      split at h
      · rename_i g hg
        obtain ⟨v, hv, hk⟩ := oV_elim h
        have := hX fid g _ v w hg hv
        refine wp_value he (v := v) ?_ hs (Keeps.refl _ _) hk hK
        rw [hev]
        simp only [execOp, Sem.run_bind, hres, Result.andThen_ok, invoke, hargs]
        exact this
      · rename_i hg
        unfold Oper.wp
        rw [hev]
        have : (execOp (evE env) ⟨dst, .call { callee := .value f, args, argTypes }, ty, pos, after, guard⟩).run P w = .ok (.enter fid (first.toList ++ args.toList.map (evE env) ++ cap.toList).toArray) w := by
          simp only [execOp, Sem.run_bind, hres, Result.andThen_ok, invoke, hargs]
          exact h.1 _ w
        rw [this]
        refine (h.2 w hs).mono ?_
        rintro e w' ⟨H', h1, h2, h3⟩
        cases e with
        | returned v => exact hK _ _ _ _ (he.put dst v) h1 h2 h3
        | panicked c => exact hp c H' w' h1 h2 h3
        | outgrown => exact h3.elim
    | builtin b =>
      cases b
      case append =>
        simp only [opW] at h
        split at h
        case h_2 => exact h.elim
        rename_i s x t t' ha ht
        obtain rfl : args = #[s, x] := by rw [← Array.toList_inj]; exact ha
        obtain rfl : argTypes = #[t, t'] := by rw [← Array.toList_inj]; exact ht
        split at h
        case isFalse => exact h.elim
        rename_i htt
        subst htt
        obtain ⟨e, te, hq, h⟩ := oT_elim h
        obtain ⟨ti, g1, g2, g3⟩ := elemOfT_ok hT hq
        split at h
        case isFalse => exact h.elim
        rename_i hz
        obtain ⟨v, w', H', hr, hk, h1, h2⟩ := run_oAppend (P := P) (ty := ty) g1 g2 g3 hz hs h
        refine wp_value he (v := v) ?_ h1 h2 hk hK
        rw [hev]
        simp [execOp, resolve, invoke, builtin, hr]
      case copy =>
        simp only [opW] at h
        split at h
        case h_2 => exact h.elim
        rename_i s x t t' ha ht
        obtain rfl : args = #[s, x] := by rw [← Array.toList_inj]; exact ha
        obtain rfl : argTypes = #[t, t'] := by rw [← Array.toList_inj]; exact ht
        obtain ⟨e, te, hq, h⟩ := oT_elim h
        obtain ⟨ti, g1, g2, g3⟩ := elemOfT_ok hT hq
        obtain ⟨v, w', H', hr, hk, h1, h2⟩ := run_oCopy (P := P) (t' := t') (ty := ty) g1 g2 g3 hs h
        refine wp_value he (v := v) ?_ h1 h2 hk hK
        rw [hev]
        simp [execOp, resolve, invoke, builtin, hr]
      all_goals exact pure_ rfl h
  all_goals exact pure_ rfl h
end
end Go.Proofs.YtchhpagkdaaglaaDoor.SL
