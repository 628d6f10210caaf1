/- What the law's argument reads as. -/
import Derived.Test.YtchhpagkdaaglaaAdvD
import Derived.Test.YtchhpagkdaaglaaSlR
import Derived.ChangeArms
import Derived.KernelRfl
set_option linter.unusedVariables false
set_option linter.unusedSimpArgs false
namespace Go.Proofs.Ytchhpagkdaaglaa.SL
open Go

theorem struct_field {α : Type} {P : Program} {t : TypeId} {fs : Array Field} {Hd : Type} {enc : TypeId × Value → Hd} {W : World} {fuel : Nat} {cs : List Value} {x : DataW Hd × List MemPlace} (ht : P.underlying t = some (.struct fs)) (h : DataW.trod enc P W 0 (fun _ => true) true fuel t cs = some x)
    {i : Nat} {f : Field} (hf : fs[i]? = some f) {e : El α} {wf : α → Prop} (hs : P.cellsOf f.type = e.sz) (he : Opens P f.type e wf) : ∃ a, e.rel (wh W) a ((cs.drop f.offset).take e.sz) ∧ wf a := by
  obtain ⟨xs, n, _, _, hl, hn, hd⟩ := DataW.trod_struct ht h
  have h1 := hd i f hf
  rw [hs] at h1
  have hi : i < xs.length := by
    have := (Array.getElem?_eq_some_iff.1 hf).1
    omega
  rw [List.getElem?_eq_getElem hi] at h1
  exact he h1
theorem struct_len {P : Program} {t : TypeId} {fs : Array Field} {Hd : Type} {enc : TypeId × Value → Hd} {W : World} {fuel : Nat} {cs : List Value} {x : DataW Hd × List MemPlace} (ht : P.underlying t = some (.struct fs)) (h : DataW.trod enc P W 0 (fun _ => true) true fuel t cs = some x) : cs.length = P.cellsOf t := by
  obtain ⟨xs, n, _, _, hl, hn, hd⟩ := DataW.trod_struct ht h
  exact hl
def kOk (d : Dev) : Prop := 0 ≤ d.k ∧ d.k ≤ 18446744073709551615
theorem opens_dev : Opens Try.prog 44 eDev kOk := by
  intro Hd enc W fuel cs x h
  have hl : cs.length = 8 := (struct_len Try.underlying44 h).trans (by kernel_rfl)
  obtain ⟨a0, r0, w0⟩ := struct_field Try.underlying44 h (i := 0) rfl (e := eInt .i64) (by kernel_rfl) (opens_int Try.underlying3)
  obtain ⟨a1, r1, w1⟩ := struct_field Try.underlying44 h (i := 1) rfl (e := eInt .i64) (by kernel_rfl) (opens_int Try.underlying3)
  obtain ⟨a2, r2, w2⟩ := struct_field Try.underlying44 h (i := 2) rfl (e := eInt .i64) (by kernel_rfl) (opens_int Try.underlying3)
  obtain ⟨a3, r3, w3⟩ := struct_field Try.underlying44 h (i := 3) rfl (e := eInt .i64) (by kernel_rfl) (opens_int Try.underlying3)
  obtain ⟨a4, r4, w4⟩ := struct_field Try.underlying44 h (i := 4) rfl (e := eInt .i64) (by kernel_rfl) (opens_int Try.underlying3)
  obtain ⟨a5, r5, w5⟩ := struct_field Try.underlying44 h (i := 5) rfl (e := eInt .u64) (by kernel_rfl) (opens_int Try.underlying22)
  obtain ⟨a6, r6, w6⟩ := struct_field Try.underlying44 h (i := 6) rfl (e := eInt .i64) (by kernel_rfl) (opens_int Try.underlying3)
  obtain ⟨a7, r7, w7⟩ := struct_field Try.underlying44 h (i := 7) rfl (e := eInt .i64) (by kernel_rfl) (opens_int Try.underlying3)
  refine ⟨⟨a0, a1, a2, a3, a4, a5, a6, a7⟩, ?_, InR.u64 w5⟩
  match cs, hl with
  | [c0, c1, c2, c3, c4, c5, c6, c7], _ =>
    have q0 : [c0] = [.int .i64 a0] := r0
    have q1 : [c1] = [.int .i64 a1] := r1
    have q2 : [c2] = [.int .i64 a2] := r2
    have q3 : [c3] = [.int .i64 a3] := r3
    have q4 : [c4] = [.int .i64 a4] := r4
    have q5 : [c5] = [.int .u64 a5] := r5
    have q6 : [c6] = [.int .i64 a6] := r6
    have q7 : [c7] = [.int .i64 a7] := r7
    cases q0
    cases q1
    cases q2
    cases q3
    cases q4
    cases q5
    cases q6
    cases q7
    rfl
def ePar : El (Int × Int × Int) where
  sz := 3
  rel _ a cs := cs = [.int .u64 a.1, .int .i64 a.2.1, .int .i64 a.2.2]
  len := by rintro H x cs rfl; rfl
  mono := by rintro H G x cs _ h; exact h
theorem opens_par : Opens Try.prog 24 ePar (fun _ => True) := by
  intro Hd enc W fuel cs x h
  have hl : cs.length = 3 := (struct_len Try.underlying24 h).trans (by kernel_rfl)
  obtain ⟨a0, r0, w0⟩ := struct_field Try.underlying24 h (i := 0) rfl (e := eInt .u64) (by kernel_rfl) (opens_int Try.underlying22)
  obtain ⟨a1, r1, w1⟩ := struct_field Try.underlying24 h (i := 1) rfl (e := eInt .i64) (by kernel_rfl) (opens_int Try.underlying3)
  obtain ⟨a2, r2, w2⟩ := struct_field Try.underlying24 h (i := 2) rfl (e := eInt .i64) (by kernel_rfl) (opens_int Try.underlying3)
  refine ⟨(a0, a1, a2), ?_, trivial⟩
  match cs, hl with
  | [c0, c1, c2], _ =>
    have q0 : [c0] = [.int .u64 a0] := r0
    have q1 : [c1] = [.int .i64 a1] := r1
    have q2 : [c2] = [.int .i64 a2] := r2
    cases q0
    cases q1
    cases q2
    rfl
def eScn : El Scn where
  sz := 6
  rel H s cs := ∃ cv dv tv, cs = [.int .u64 s.P, .int .i64 s.N, .int .i64 s.T, cv, dv, tv] ∧ ScnOk H s cv dv tv
  len := by rintro H x cs ⟨_, _, _, rfl, _⟩; rfl
  mono := by rintro H G x cs hl ⟨a, b, c, rfl, h⟩; exact ⟨a, b, c, rfl, h.mono hl⟩
theorem opens_scn : Opens Try.prog 29 eScn (fun s => ∀ d ∈ s.devs, kOk d) := by
  intro Hd enc W fuel cs x h
  have hl : cs.length = 6 := (struct_len Try.underlying29 h).trans (by kernel_rfl)
  obtain ⟨a0, r0, w0⟩ := struct_field Try.underlying29 h (i := 0) rfl (e := ePar) (by kernel_rfl) opens_par
  obtain ⟨a1, r1, w1⟩ := struct_field Try.underlying29 h (i := 1) rfl (e := eSlice (eInt .i64)) (by kernel_rfl) (opens_slice Try.underlying25 (by kernel_rfl) (by decide) (opens_int Try.underlying3))
  obtain ⟨a2, r2, w2⟩ := struct_field Try.underlying29 h (i := 2) rfl (e := eSlice eDev) (by kernel_rfl) (opens_slice Try.underlying26 (by kernel_rfl) (by decide) opens_dev)
  obtain ⟨a3, r3, w3⟩ := struct_field Try.underlying29 h (i := 3) rfl (e := eSlice (eSlice (eInt .u64))) (by kernel_rfl) (opens_slice Try.underlying27 (by kernel_rfl) (by decide) (opens_slice Try.underlying41 (by kernel_rfl) (by decide) (opens_int Try.underlying22)))
  refine ⟨⟨a0.1, a0.2.1, a0.2.2, a1, a2, a3⟩, ?_, w2⟩
  match cs, hl with
  | [c0, c1, c2, c3, c4, c5], _ =>
    have q0 : [c0, c1, c2] = [.int .u64 a0.1, .int .i64 a0.2.1, .int .i64 a0.2.2] := r0
    obtain ⟨u1, q1, s1⟩ : ∃ u, [c3] = [u] ∧ Sl (eInt .i64) (wh W) u a1 := r1
    obtain ⟨u2, q2, s2⟩ : ∃ u, [c4] = [u] ∧ Sl eDev (wh W) u a2 := r2
    obtain ⟨u3, q3, s3⟩ : ∃ u, [c5] = [u] ∧ Sl (eSlice (eInt .u64)) (wh W) u a3 := r3
    cases q0
    cases q1
    cases q2
    cases q3
    exact ⟨_, _, _, rfl, s1, s2, s3⟩
def eAsk : El Ask where
  sz := 9
  rel H z cs := ∃ cv dv tv mv av, cs = [.int .u64 z.s.P, .int .i64 z.s.N, .int .i64 z.s.T, cv, dv, tv, .int .i64 z.rd, mv, av] ∧ AskOk H z cv dv tv mv av
  len := by rintro H x cs ⟨_, _, _, _, _, rfl, _⟩; rfl
  mono := by rintro H G x cs hl ⟨a, b, c, d, e, rfl, h⟩; exact ⟨a, b, c, d, e, rfl, h.mono hl⟩
theorem opens_ask : Opens Try.prog 32 eAsk AskWf := by
  intro Hd enc W fuel cs x h
  have hl : cs.length = 9 := (struct_len Try.underlying32 h).trans (by kernel_rfl)
  obtain ⟨a0, r0, w0⟩ := struct_field Try.underlying32 h (i := 0) rfl (e := eScn) (by kernel_rfl) opens_scn
  obtain ⟨a1, r1, w1⟩ := struct_field Try.underlying32 h (i := 1) rfl (e := eInt .i64) (by kernel_rfl) (opens_int Try.underlying3)
  obtain ⟨a2, r2, w2⟩ := struct_field Try.underlying32 h (i := 2) rfl (e := eSlice (eSlice (eSlice (eInt .u64)))) (by kernel_rfl) (opens_slice Try.underlying30 (by kernel_rfl) (by decide) (opens_slice Try.underlying27 (by kernel_rfl) (by decide) (opens_slice Try.underlying41 (by kernel_rfl) (by decide) (opens_int Try.underlying22))))
  obtain ⟨a3, r3, w3⟩ := struct_field Try.underlying32 h (i := 3) rfl (e := eSlice (eSlice (eInt .u64))) (by kernel_rfl) (opens_slice Try.underlying27 (by kernel_rfl) (by decide) (opens_slice Try.underlying41 (by kernel_rfl) (by decide) (opens_int Try.underlying22)))
  refine ⟨⟨a0, a1, a2, a3⟩, ?_, ⟨w0, fun m hm r hr x hx => (InR.u64 (w2 m hm r hr x hx)).1, fun r hr x hx => (InR.u64 (w3 r hr x hx)).1⟩⟩
  match cs, hl with
  | [c0, c1, c2, c3, c4, c5, c6, c7, c8], _ =>
    obtain ⟨cv, dv, tv, q0, hs⟩ : ∃ cv dv tv, [c0, c1, c2, c3, c4, c5] = [.int .u64 a0.P, .int .i64 a0.N, .int .i64 a0.T, cv, dv, tv] ∧ ScnOk (wh W) a0 cv dv tv := r0
    have q1 : [c6] = [.int .i64 a1] := r1
    obtain ⟨u2, q2, s2⟩ : ∃ u, [c7] = [u] ∧ Sl (eSlice (eSlice (eInt .u64))) (wh W) u a2 := r2
    obtain ⟨u3, q3, s3⟩ : ∃ u, [c8] = [u] ∧ Sl (eSlice (eInt .u64)) (wh W) u a3 := r3
    cases q0
    cases q1
    cases q2
    cases q3
    exact ⟨_, _, _, _, _, rfl, hs, s2, s3⟩
end Go.Proofs.Ytchhpagkdaaglaa.SL
