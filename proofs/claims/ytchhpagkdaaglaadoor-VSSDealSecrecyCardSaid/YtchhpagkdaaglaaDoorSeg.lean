/- Part 28 of the proof of LawSe: ParR VdU VeE, one behind the other. -/
import Derived.Test.YtchhpagkdaaglaaDoorSeSlR
import Derived.Test.YtchhpagkdaaglaaDoorSeb
import Derived.Test.YtchhpagkdaaglaaDoorRows
import Derived.ChangeArms
import Derived.LaidMore
import Derived.LaidSub
import Derived.KernelRfl
import Derived.Test.YtchhpagkdaaglaaDoorSee
import Derived.Test.YtchhpagkdaaglaaDoorSef
set_option linter.unusedVariables false
set_option linter.unusedSimpArgs false
namespace Go.Proofs.YtchhpagkdaaglaaDoor.SL

section
open Go

theorem struct_field {α : Type} {P : Program} {t : TypeId} {fs : Array Field} {Hd : Type} {enc : TypeId × Value → Hd} {W : World} {fuel : Nat} {cs : List Value} {x : DataW Hd × List MemPlace} (ht : P.underlying t = some (.struct fs)) (h : DataW.trod enc P W 0 (fun _ => true) true fuel t cs = some x)
    {i : Nat} {f : Field} (hf : fs[i]? = some f) {e : El α} {wf : α → Prop} (hs : P.cellsOf f.type = e.sz) (he : Opens P f.type e wf) : ∃ a, e.rel (wh W) a ((cs.drop f.offset).take e.sz) ∧ wf a := by
  obtain ⟨xs, n, _, _, hl, hn, hd⟩ := DataW.trod_struct ht h
  have h1 := hd i f hf
  rw [hs] at h1
  have hi : i < xs.length := by
    have := (Array.getElem?_eq_some_iff.1 hf).1
    omega
  rw [List.getElem?_eq_getElem hi] at h1
  exact he h1
theorem struct_len {P : Program} {t : TypeId} {fs : Array Field} {Hd : Type} {enc : TypeId × Value → Hd} {W : World} {fuel : Nat} {cs : List Value} {x : DataW Hd × List MemPlace} (ht : P.underlying t = some (.struct fs)) (h : DataW.trod enc P W 0 (fun _ => true) true fuel t cs = some x) : cs.length = P.cellsOf t := by
  obtain ⟨xs, n, _, _, hl, hn, hd⟩ := DataW.trod_struct ht h
  exact hl
def kOk (d : Dev) : Prop := 0 ≤ d.k ∧ d.k ≤ 18446744073709551615
theorem opens_dev : Opens Tryd.prog 109 eDev kOk := by
  intro Hd enc W fuel cs x h
  have hl : cs.length = 8 := (struct_len Tryd.underlying109 h).trans (by kernel_rfl)
  obtain ⟨a0, r0, w0⟩ := struct_field Tryd.underlying109 h (i := 0) rfl (e := eInt .i64) (by kernel_rfl) (opens_int Tryd.underlying3)
  obtain ⟨a1, r1, w1⟩ := struct_field Tryd.underlying109 h (i := 1) rfl (e := eInt .i64) (by kernel_rfl) (opens_int Tryd.underlying3)
  obtain ⟨a2, r2, w2⟩ := struct_field Tryd.underlying109 h (i := 2) rfl (e := eInt .i64) (by kernel_rfl) (opens_int Tryd.underlying3)
  obtain ⟨a3, r3, w3⟩ := struct_field Tryd.underlying109 h (i := 3) rfl (e := eInt .i64) (by kernel_rfl) (opens_int Tryd.underlying3)
  obtain ⟨a4, r4, w4⟩ := struct_field Tryd.underlying109 h (i := 4) rfl (e := eInt .i64) (by kernel_rfl) (opens_int Tryd.underlying3)
  obtain ⟨a5, r5, w5⟩ := struct_field Tryd.underlying109 h (i := 5) rfl (e := eInt .u64) (by kernel_rfl) (opens_int Tryd.underlying22)
  obtain ⟨a6, r6, w6⟩ := struct_field Tryd.underlying109 h (i := 6) rfl (e := eInt .i64) (by kernel_rfl) (opens_int Tryd.underlying3)
  obtain ⟨a7, r7, w7⟩ := struct_field Tryd.underlying109 h (i := 7) rfl (e := eInt .i64) (by kernel_rfl) (opens_int Tryd.underlying3)
  refine ⟨⟨a0, a1, a2, a3, a4, a5, a6, a7⟩, ?_, InR.u64 w5⟩
  match cs, hl with
  | [c0, c1, c2, c3, c4, c5, c6, c7], _ =>
    have q0 : [c0] = [.int .i64 a0] := r0
    have q1 : [c1] = [.int .i64 a1] := r1
    have q2 : [c2] = [.int .i64 a2] := r2
    have q3 : [c3] = [.int .i64 a3] := r3
    have q4 : [c4] = [.int .i64 a4] := r4
    have q5 : [c5] = [.int .u64 a5] := r5
    have q6 : [c6] = [.int .i64 a6] := r6
    have q7 : [c7] = [.int .i64 a7] := r7
    cases q0
    cases q1
    cases q2
    cases q3
    cases q4
    cases q5
    cases q6
    cases q7
    rfl
def ePar : El (Int × Int × Int) where
  sz := 3
  rel _ a cs := cs = [.int .u64 a.1, .int .i64 a.2.1, .int .i64 a.2.2]
  len := by rintro H x cs rfl; rfl
  mono := by rintro H G x cs _ h; exact h
theorem opens_par : Opens Tryd.prog 24 ePar (fun _ => True) := by
  intro Hd enc W fuel cs x h
  have hl : cs.length = 3 := (struct_len Tryd.underlying24 h).trans (by kernel_rfl)
  obtain ⟨a0, r0, w0⟩ := struct_field Tryd.underlying24 h (i := 0) rfl (e := eInt .u64) (by kernel_rfl) (opens_int Tryd.underlying22)
  obtain ⟨a1, r1, w1⟩ := struct_field Tryd.underlying24 h (i := 1) rfl (e := eInt .i64) (by kernel_rfl) (opens_int Tryd.underlying3)
  obtain ⟨a2, r2, w2⟩ := struct_field Tryd.underlying24 h (i := 2) rfl (e := eInt .i64) (by kernel_rfl) (opens_int Tryd.underlying3)
  refine ⟨(a0, a1, a2), ?_, trivial⟩
  match cs, hl with
  | [c0, c1, c2], _ =>
    have q0 : [c0] = [.int .u64 a0] := r0
    have q1 : [c1] = [.int .i64 a1] := r1
    have q2 : [c2] = [.int .i64 a2] := r2
    cases q0
    cases q1
    cases q2
    rfl
def eScn : El Scn where
  sz := 6
  rel H s cs := ∃ cv dv tv, cs = [.int .u64 s.P, .int .i64 s.N, .int .i64 s.T, cv, dv, tv] ∧ ScnOk H s cv dv tv
  len := by rintro H x cs ⟨_, _, _, rfl, _⟩; rfl
  mono := by rintro H G x cs hl ⟨a, b, c, rfl, h⟩; exact ⟨a, b, c, rfl, h.mono hl⟩
section
variable {α : Type} {P : Program} {t : TypeId} {fs : Array Field} {Hd : Type} {enc : TypeId × Value → Hd} {W : World} {b0 fuel : Nat} {sp : Nat → Bool} {held : Bool} {cs : List Value}
theorem array_part {n sz : Nat} {e : TypeId} {ds : List (DataW Hd)} {p : List MemPlace} (ht : P.underlying t = some (.array n e)) (hc : P.cellsOf e = sz) (h : DataW.trod enc P W b0 sp held fuel t cs = some (.agg ds, p)) {i : Nat} {d : DataW Hd} (hd : ds[i]? = some d) :
    ∃ m q, DataW.trod enc P W b0 sp held m e ((cs.drop (i * sz)).take sz) = some (d, q) := by
  obtain ⟨xs, m, _, hx, hl, hn, he⟩ := DataW.trod_array ht h
  simp only [Prod.mk.injEq, DataW.agg.injEq] at hx
  obtain ⟨rfl, _⟩ := hx
  rw [List.getElem?_map] at hd
  cases hy : xs[i]? with
  | none => rw [hy] at hd; cases hd
  | some y =>
    have hi : i < n := by
      have := (List.getElem?_eq_some_iff.1 hy).1
      omega
    have h1 := he i hi
    rw [hy, hc] at h1
    rw [hy] at hd
    cases hd
    exact ⟨m, y.2, h1⟩
theorem array_len {n : Nat} {e : TypeId} {x : DataW Hd × List MemPlace} (ht : P.underlying t = some (.array n e)) (h : DataW.trod enc P W b0 sp held fuel t cs = some x) : cs.length = P.cellsOf t := by
  obtain ⟨xs, m, _, hx, hl, hn, he⟩ := DataW.trod_array ht h
  exact hl
theorem lit_int {k k' : IntKind} {n : Int} {p : List MemPlace} (ht : P.underlying t = some (.int k)) (h : DataW.trod enc P W b0 sp held fuel t cs = some (.lit (.int k' n), p)) : cs = [.int k n] := by
  obtain ⟨m, rfl, hx, _⟩ := DataW.trod_int ht h
  simp only [Prod.mk.injEq, DataW.lit.injEq, Lit.int.injEq] at hx
  rw [hx.1.2]
theorem wh_var {n : String} {g : Nat} {cs : Array Value} (hg : P.globalNamed n = some g) (h : W.var? P n = some cs) : ∃ e, wh W g = some (.cells cs.toList cs.size e false) := by
  simp only [World.var?, hg, Option.bind_some] at h
  split at h
  · rename_i c e fr ho
    cases h
    exact ⟨e, by simp [wh, ho]⟩
  · cases h
end
theorem gExps : Tryd.prog.globalNamed "privity/field.exps" = some 0 := by kernel_rfl
theorem tExps : (Tryd.prog.globals[0]?).map (·.type) = some 182 := by kernel_rfl
section
variable {Hd : Type} {enc : TypeId × Value → Hd} {W : World} {fuel : Nat} {sp : Nat → Bool} {held : Bool} {cs : List Value} {p : List MemPlace}
theorem exps_cells (h : DataW.trod enc Tryd.prog W 0 sp held fuel 182 cs = some (Rows.laid_privity_field_exps, p)) : cs = [.int .i64 5, .int .i64 7, .int .i64 13, .int .i64 17, .int .i64 19, .int .i64 31, .int .i64 61] := by
  have hl : cs.length = 7 := (array_len Tryd.underlying182 h).trans (by kernel_rfl)
  have hp := fun i d (hd : _[i]? = some d) => array_part (sz := 1) Tryd.underlying182 (by kernel_rfl) h (i := i) (d := d) hd
  match cs, hl with
  | [c0, c1, c2, c3, c4, c5, c6], _ =>
    obtain ⟨_, _, h0⟩ := hp 0 _ rfl
    obtain ⟨_, _, h1⟩ := hp 1 _ rfl
    obtain ⟨_, _, h2⟩ := hp 2 _ rfl
    obtain ⟨_, _, h3⟩ := hp 3 _ rfl
    obtain ⟨_, _, h4⟩ := hp 4 _ rfl
    obtain ⟨_, _, h5⟩ := hp 5 _ rfl
    obtain ⟨_, _, h6⟩ := hp 6 _ rfl
    have e0 : [c0] = _ := lit_int Tryd.underlying3 h0
    have e1 : [c1] = _ := lit_int Tryd.underlying3 h1
    have e2 : [c2] = _ := lit_int Tryd.underlying3 h2
    have e3 : [c3] = _ := lit_int Tryd.underlying3 h3
    have e4 : [c4] = _ := lit_int Tryd.underlying3 h4
    have e5 : [c5] = _ := lit_int Tryd.underlying3 h5
    have e6 : [c6] = _ := lit_int Tryd.underlying3 h6
    cases e0
    cases e1
    cases e2
    cases e3
    cases e4
    cases e5
    cases e6
    rfl
end
theorem of_laid {W : World} (h : laidMet Tryd.prog [("privity/field.exps", Rows.laid_privity_field_exps)] W) : GL (wh W) := by
  obtain ⟨ps, ⟨g1, t1, cs1, fu1, p1, q1, hg1, ht1, hv1, hd1, _⟩, _⟩ := h
  obtain rfl := Option.some.inj (gExps.symm.trans hg1)
  obtain rfl := Option.some.inj (tExps.symm.trans ht1)
  have c1 := exps_cells hd1
  obtain ⟨e1, b1⟩ := wh_var gExps hv1
  rw [c1] at b1
  exact ⟨⟨_, _, _, b1⟩⟩
end

section
open Go

theorem opens_scn2 : Opens Tryd.prog 29 eScn (fun s => (∀ d ∈ s.devs, kOk d) ∧ ∀ l ∈ s.tapes, ∀ x ∈ l, 0 ≤ x) := by
  intro Hd enc W fuel cs x h
  have hl : cs.length = 6 := (struct_len Tryd.underlying29 h).trans (by kernel_rfl)
  obtain ⟨a0, r0, w0⟩ := struct_field Tryd.underlying29 h (i := 0) rfl (e := ePar) (by kernel_rfl) opens_par
  obtain ⟨a1, r1, w1⟩ := struct_field Tryd.underlying29 h (i := 1) rfl (e := qXZ (eInt .i64)) (by kernel_rfl) (opens_slice Tryd.underlying25 (by kernel_rfl) (by decide) (opens_int Tryd.underlying3))
  obtain ⟨a2, r2, w2⟩ := struct_field Tryd.underlying29 h (i := 2) rfl (e := qXZ eDev) (by kernel_rfl) (opens_slice Tryd.underlying26 (by kernel_rfl) (by decide) opens_dev)
  obtain ⟨a3, r3, w3⟩ := struct_field Tryd.underlying29 h (i := 3) rfl (e := qXZ (qXZ (eInt .u64))) (by kernel_rfl) (opens_slice Tryd.underlying27 (by kernel_rfl) (by decide) (opens_slice Tryd.underlying52 (by kernel_rfl) (by decide) (opens_int Tryd.underlying22)))
  refine ⟨⟨a0.1, a0.2.1, a0.2.2, a1, a2, a3⟩, ?_, w2, fun l hl x hx => (InR.u64 (w3 l hl x hx)).1⟩
  match cs, hl with
  | [c0, c1, c2, c3, c4, c5], _ =>
    have q0 : [c0, c1, c2] = [.int .u64 a0.1, .int .i64 a0.2.1, .int .i64 a0.2.2] := r0
    obtain ⟨u1, q1, s1⟩ : ∃ u, [c3] = [u] ∧ Sl (eInt .i64) (wh W) u a1 := r1
    obtain ⟨u2, q2, s2⟩ : ∃ u, [c4] = [u] ∧ Sl eDev (wh W) u a2 := r2
    obtain ⟨u3, q3, s3⟩ : ∃ u, [c5] = [u] ∧ Sl (qXZ (eInt .u64)) (wh W) u a3 := r3
    cases q0
    cases q1
    cases q2
    cases q3
    exact ⟨_, _, _, rfl, s1, s2, s3⟩
structure Dea where
  s : Scn
  q : List (List (List Int))
def eDea : El Dea where
  sz := 7
  rel H z cs := ∃ cv dv tv qv, cs = [.int .u64 z.s.P, .int .i64 z.s.N, .int .i64 z.s.T, cv, dv, tv, qv] ∧ DzOk H z.s z.q cv dv tv qv
  len := by rintro H x cs ⟨_, _, _, _, rfl, _⟩; rfl
  mono := by rintro H G x cs hl ⟨a, b, c, d, rfl, h⟩; exact ⟨a, b, c, d, rfl, h.mono hl⟩
theorem opens_deal : Opens Tryd.prog 67 eDea (fun z => DzWf z.s z.q) := by
  intro Hd enc W fuel cs x h
  have hl : cs.length = 7 := (struct_len Tryd.underlying67 h).trans (by kernel_rfl)
  obtain ⟨a0, r0, w0⟩ := struct_field Tryd.underlying67 h (i := 0) rfl (e := eScn) (by kernel_rfl) opens_scn2
  obtain ⟨a1, r1, w1⟩ := struct_field Tryd.underlying67 h (i := 1) rfl (e := qXZ (qXZ (qXZ (eInt .u64)))) (by kernel_rfl) (opens_slice Tryd.underlying44 (by kernel_rfl) (by decide) (opens_slice Tryd.underlying27 (by kernel_rfl) (by decide) (opens_slice Tryd.underlying52 (by kernel_rfl) (by decide) (opens_int Tryd.underlying22))))
  refine ⟨⟨a0, a1⟩, ?_, ⟨w0.1, w0.2, fun m hm l hl x hx => (InR.u64 (w1 m hm l hl x hx)).1⟩⟩
  match cs, hl with
  | [c0, c1, c2, c3, c4, c5, c6], _ =>
    obtain ⟨cv, dv, tv, q0, hs⟩ : ∃ cv dv tv, [c0, c1, c2, c3, c4, c5] = [.int .u64 a0.P, .int .i64 a0.N, .int .i64 a0.T, cv, dv, tv] ∧ ScnOk (wh W) a0 cv dv tv := r0
    obtain ⟨u1, q1, s1⟩ : ∃ u, [c6] = [u] ∧ Sl (qXZ (qXZ (eInt .u64))) (wh W) u a1 := r1
    cases q0
    cases q1
    exact ⟨_, _, _, _, rfl, hs, s1⟩
end

section

end

end Go.Proofs.YtchhpagkdaaglaaDoor.SL
