/- What the law's argument reads as. -/
import Derived.Test.YtchhpagkdaaglaaDoorParR
import Derived.Test.YtchhpagkdaaglaaDoorNetM
set_option linter.unusedVariables false
set_option linter.unusedSimpArgs false
namespace Go.Proofs.YtchhpagkdaaglaaDoor.SL
open Go

theorem opens_rnd : Opens Tryd.prog 46 eRnd (fun r => ∀ m ∈ r.msgs, ∀ l ∈ m, ∀ x ∈ l, 0 ≤ x ∧ x ≤ 18446744073709551615) := by
  intro Hd enc W fuel cs x h
  have hl : cs.length = 2 := (struct_len Tryd.underlying46 h).trans (by kernel_rfl)
  obtain ⟨a0, r0, w0⟩ := struct_field Tryd.underlying46 h (i := 0) rfl (e := eBool) (by kernel_rfl) (opens_bool Tryd.underlying4)
  obtain ⟨a1, r1, w1⟩ := struct_field Tryd.underlying46 h (i := 1) rfl (e := eSlice (eSlice (eSlice (eInt .u64)))) (by kernel_rfl) (opens_slice Tryd.underlying44 (by kernel_rfl) (by decide) (opens_slice Tryd.underlying27 (by kernel_rfl) (by decide) (opens_slice Tryd.underlying52 (by kernel_rfl) (by decide) (opens_int Tryd.underlying22))))
  refine ⟨⟨a0, a1⟩, ?_, fun m hm l hl x hx => InR.u64 (w1 m hm l hl x hx)⟩
  match cs, hl with
  | [c0, c1], _ =>
    have q0 : [c0] = [.bool a0] := r0
    obtain ⟨u1, q1, s1⟩ : ∃ u, [c1] = [u] ∧ Sl (eSlice (eSlice (eInt .u64))) (wh W) u a1 := r1
    cases q0
    cases q1
    exact ⟨_, rfl, s1⟩
structure Exe where
  s : Scn
  rs : List Rnd
def eExe : El Exe where
  sz := 7
  rel H z cs := ∃ cv dv tv lv, cs = [.int .u64 z.s.P, .int .i64 z.s.N, .int .i64 z.s.T, cv, dv, tv, lv] ∧ ExeOk H z.s z.rs cv dv tv lv
  len := by rintro H x cs ⟨_, _, _, _, rfl, _⟩; rfl
  mono := by rintro H G x cs hl ⟨a, b, c, d, rfl, h⟩; exact ⟨a, b, c, d, rfl, h.mono hl⟩
theorem opens_exe : Opens Tryd.prog 32 eExe (fun z => ExeWf z.s z.rs) := by
  intro Hd enc W fuel cs x h
  have hl : cs.length = 7 := (struct_len Tryd.underlying32 h).trans (by kernel_rfl)
  obtain ⟨a0, r0, w0⟩ := struct_field Tryd.underlying32 h (i := 0) rfl (e := eScn) (by kernel_rfl) opens_scn
  obtain ⟨a1, r1, w1⟩ := struct_field Tryd.underlying32 h (i := 1) rfl (e := eSlice eRnd) (by kernel_rfl) (opens_slice Tryd.underlying30 (by kernel_rfl) (by decide) opens_rnd)
  refine ⟨⟨a0, a1⟩, ?_, ⟨w0, w1⟩⟩
  match cs, hl with
  | [c0, c1, c2, c3, c4, c5, c6], _ =>
    obtain ⟨cv, dv, tv, q0, hs⟩ : ∃ cv dv tv, [c0, c1, c2, c3, c4, c5] = [.int .u64 a0.P, .int .i64 a0.N, .int .i64 a0.T, cv, dv, tv] ∧ ScnOk (wh W) a0 cv dv tv := r0
    obtain ⟨u1, q1, s1⟩ : ∃ u, [c6] = [u] ∧ Sl eRnd (wh W) u a1 := r1
    cases q0
    cases q1
    exact ⟨_, _, _, _, rfl, hs, s1⟩
end Go.Proofs.YtchhpagkdaaglaaDoor.SL
