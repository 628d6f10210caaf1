/- What the law's arguments and the package's variables read as. -/
import Derived.Test.YtpbaoefjkfdgmaaDoorCtF
import Derived.Test.YtpbaoefjkfdgmaaDoorSlR
import Derived.Test.YtpbaoefjkfdgmaaDoorRows
import Derived.ChangeArms
import Derived.LaidMore
import Derived.LaidSub
import Derived.KernelRfl
set_option linter.unusedVariables false
set_option linter.unusedSimpArgs false
namespace Go.Proofs.YtpbaoefjkfdgmaaDoor.SL
open Go

section
variable {α : Type} {P : Program} {t : TypeId} {fs : Array Field} {Hd : Type} {enc : TypeId × Value → Hd} {W : World} {b0 fuel : Nat} {sp : Nat → Bool} {held : Bool} {cs : List Value}
theorem struct_field {x : DataW Hd × List MemPlace} (ht : P.underlying t = some (.struct fs)) (h : DataW.trod enc P W 0 (fun _ => true) true fuel t cs = some x)
    {i : Nat} {f : Field} (hf : fs[i]? = some f) {e : El α} {wf : α → Prop} (hs : P.cellsOf f.type = e.sz) (he : Opens P f.type e wf) : ∃ a, e.rel (wh W) a ((cs.drop f.offset).take e.sz) ∧ wf a := by
  obtain ⟨xs, n, _, _, hl, hn, hd⟩ := DataW.trod_struct ht h
  have h1 := hd i f hf
  rw [hs] at h1
  have hi : i < xs.length := by
    have := (Array.getElem?_eq_some_iff.1 hf).1
    omega
  rw [List.getElem?_eq_getElem hi] at h1
  exact he h1
theorem struct_len {x : DataW Hd × List MemPlace} (ht : P.underlying t = some (.struct fs)) (h : DataW.trod enc P W b0 sp held fuel t cs = some x) : cs.length = P.cellsOf t := by
  obtain ⟨xs, n, _, _, hl, hn, hd⟩ := DataW.trod_struct ht h
  exact hl
theorem struct_part {ds : List (DataW Hd)} {p : List MemPlace} (ht : P.underlying t = some (.struct fs)) (h : DataW.trod enc P W b0 sp held fuel t cs = some (.agg ds, p)) {i sz : Nat} {f : Field} {d : DataW Hd} (hf : fs[i]? = some f) (hs : P.cellsOf f.type = sz) (hd : ds[i]? = some d) :
    ∃ n q, DataW.trod enc P W b0 sp held n f.type ((cs.drop f.offset).take sz) = some (d, q) := by
  subst hs
  obtain ⟨xs, n, _, hx, hl, hn, he⟩ := DataW.trod_struct ht h
  simp only [Prod.mk.injEq, DataW.agg.injEq] at hx
  obtain ⟨rfl, _⟩ := hx
  rw [List.getElem?_map] at hd
  have h1 := he i f hf
  cases hy : xs[i]? with
  | none => rw [hy] at hd; cases hd
  | some y =>
    rw [hy] at hd h1
    cases hd
    exact ⟨n, y.2, h1⟩
theorem array_part {n sz : Nat} {e : TypeId} {ds : List (DataW Hd)} {p : List MemPlace} (ht : P.underlying t = some (.array n e)) (hc : P.cellsOf e = sz) (h : DataW.trod enc P W b0 sp held fuel t cs = some (.agg ds, p)) {i : Nat} {d : DataW Hd} (hd : ds[i]? = some d) :
    ∃ m q, DataW.trod enc P W b0 sp held m e ((cs.drop (i * sz)).take sz) = some (d, q) := by
  obtain ⟨xs, m, _, hx, hl, hn, he⟩ := DataW.trod_array ht h
  simp only [Prod.mk.injEq, DataW.agg.injEq] at hx
  obtain ⟨rfl, _⟩ := hx
  rw [List.getElem?_map] at hd
  cases hy : xs[i]? with
  | none => rw [hy] at hd; cases hd
  | some y =>
    have hi : i < n := by
      have := (List.getElem?_eq_some_iff.1 hy).1
      omega
    have h1 := he i hi
    rw [hy, hc] at h1
    rw [hy] at hd
    cases hd
    exact ⟨m, y.2, h1⟩
theorem array_len {n : Nat} {e : TypeId} {x : DataW Hd × List MemPlace} (ht : P.underlying t = some (.array n e)) (h : DataW.trod enc P W b0 sp held fuel t cs = some x) : cs.length = P.cellsOf t := by
  obtain ⟨xs, m, _, hx, hl, hn, he⟩ := DataW.trod_array ht h
  exact hl
theorem lit_int {k k' : IntKind} {n : Int} {p : List MemPlace} (ht : P.underlying t = some (.int k)) (h : DataW.trod enc P W b0 sp held fuel t cs = some (.lit (.int k' n), p)) : cs = [.int k n] := by
  obtain ⟨m, rfl, hx, _⟩ := DataW.trod_int ht h
  simp only [Prod.mk.injEq, DataW.lit.injEq, Lit.int.injEq] at hx
  rw [hx.1.2]
theorem lit_bool {b : Bool} {p : List MemPlace} (ht : P.underlying t = some .bool) (h : DataW.trod enc P W b0 sp held fuel t cs = some (.lit (.bool b), p)) : cs = [.bool b] := by
  obtain ⟨m, rfl, hx⟩ := DataW.trod_bool ht h
  simp only [Prod.mk.injEq, DataW.lit.injEq, Lit.bool.injEq] at hx
  rw [hx.1]
theorem nil_func {ps rs : Array TypeId} {va : Bool} {v : Value} {p : List MemPlace} (ht : P.underlying t = some (.func ps rs va)) (h : DataW.trod enc P W b0 sp held fuel t [v] = some (.nil, p)) : v = .nilFunc := by
  cases fuel with
  | zero => simp [DataW.trod] at h
  | succ n =>
    cases v <;> simp [DataW.trod, ht] at h
    rfl
theorem wh_var {n : String} {g : Nat} {cs : Array Value} (hg : P.globalNamed n = some g) (h : W.var? P n = some cs) : ∃ e, wh W g = some (.cells cs.toList cs.size e false) := by
  simp only [World.var?, hg, Option.bind_some] at h
  split at h
  · rename_i c e fr ho
    cases h
    exact ⟨e, by simp [wh, ho]⟩
  · cases h
end
theorem opens_gate : Opens Tryd.prog 37 eGate (fun g => 0 ≤ g.k) := by
  intro Hd enc W fuel cs x h
  have hl : cs.length = 5 := (struct_len Tryd.underlying37 h).trans (by kernel_rfl)
  obtain ⟨a0, r0, w0⟩ := struct_field Tryd.underlying37 h (i := 0) rfl (e := eInt .i64) (by kernel_rfl) (opens_int Tryd.underlying3)
  obtain ⟨a1, r1, w1⟩ := struct_field Tryd.underlying37 h (i := 1) rfl (e := eInt .i64) (by kernel_rfl) (opens_int Tryd.underlying3)
  obtain ⟨a2, r2, w2⟩ := struct_field Tryd.underlying37 h (i := 2) rfl (e := eInt .i64) (by kernel_rfl) (opens_int Tryd.underlying3)
  obtain ⟨a3, r3, w3⟩ := struct_field Tryd.underlying37 h (i := 3) rfl (e := eInt .i64) (by kernel_rfl) (opens_int Tryd.underlying3)
  obtain ⟨a4, r4, w4⟩ := struct_field Tryd.underlying37 h (i := 4) rfl (e := eInt .u64) (by kernel_rfl) (opens_int Tryd.underlying22)
  refine ⟨⟨a0, a1, a2, a3, a4⟩, ?_, (InR.u64 w4).1⟩
  match cs, hl with
  | [c0, c1, c2, c3, c4], _ =>
    have q0 : [c0] = [.int .i64 a0] := r0
    have q1 : [c1] = [.int .i64 a1] := r1
    have q2 : [c2] = [.int .i64 a2] := r2
    have q3 : [c3] = [.int .i64 a3] := r3
    have q4 : [c4] = [.int .u64 a4] := r4
    cases q0
    cases q1
    cases q2
    cases q3
    cases q4
    rfl
structure Cir where
  p : Int
  gs : List Gate
  os : List Int
def eCirc : El Cir where
  sz := 3
  rel H z cs := ∃ gv ov, cs = [.int .u64 z.p, gv, ov] ∧ Sl eGate H gv z.gs ∧ Sl (eInt .i64) H ov z.os
  len := by rintro H x cs ⟨_, _, rfl, _⟩; rfl
  mono := by rintro H G x cs hl ⟨a, b, rfl, h1, h2⟩; exact ⟨a, b, rfl, h1.mono hl, h2.mono hl⟩
theorem opens_circ : Opens Tryd.prog 26 eCirc (fun z => wfG z.gs) := by
  intro Hd enc W fuel cs x h
  have hl : cs.length = 3 := (struct_len Tryd.underlying26 h).trans (by kernel_rfl)
  obtain ⟨a0, r0, w0⟩ := struct_field Tryd.underlying26 h (i := 0) rfl (e := eInt .u64) (by kernel_rfl) (opens_int Tryd.underlying22)
  obtain ⟨a1, r1, w1⟩ := struct_field Tryd.underlying26 h (i := 1) rfl (e := eSlice eGate) (by kernel_rfl) (opens_slice Tryd.underlying23 (by kernel_rfl) (by decide) opens_gate)
  obtain ⟨a2, r2, w2⟩ := struct_field Tryd.underlying26 h (i := 2) rfl (e := eSlice (eInt .i64)) (by kernel_rfl) (opens_slice Tryd.underlying24 (by kernel_rfl) (by decide) (opens_int Tryd.underlying3))
  refine ⟨⟨a0, a1, a2⟩, ?_, w1⟩
  match cs, hl with
  | [c0, c1, c2], _ =>
    have q0 : [c0] = [.int .u64 a0] := r0
    obtain ⟨u1, q1, s1⟩ : ∃ u, [c1] = [u] ∧ Sl eGate (wh W) u a1 := r1
    obtain ⟨u2, q2, s2⟩ : ∃ u, [c2] = [u] ∧ Sl (eInt .i64) (wh W) u a2 := r2
    cases q0
    cases q1
    cases q2
    exact ⟨_, _, rfl, s1, s2⟩
theorem opens_ins : Opens Tryd.prog 27 (eSlice (eSlice (eInt .u64))) wfI := by
  intro Hd enc W fuel cs x h
  obtain ⟨a, r, w⟩ := opens_slice Tryd.underlying27 (by kernel_rfl) (by decide) (opens_slice Tryd.underlying30 (by kernel_rfl) (by decide) (opens_int Tryd.underlying22)) h
  exact ⟨a, r, fun l hl x hx => (InR.u64 (w l hl x hx)).1⟩
/-! ### The package's variables -/
theorem gExps : Tryd.prog.globalNamed "privity/field.exps" = some 1 := by kernel_rfl
theorem tExps : (Tryd.prog.globals[1]?).map (·.type) = some 63 := by kernel_rfl
theorem gForms : Tryd.prog.globalNamed "privity/circuit.forms" = some 2 := by kernel_rfl
theorem tForms : (Tryd.prog.globals[2]?).map (·.type) = some 64 := by kernel_rfl
theorem gGates : Tryd.prog.globalNamed "privity/cleartext.gates" = some 0 := by kernel_rfl
theorem tGates : (Tryd.prog.globals[0]?).map (·.type) = some 45 := by kernel_rfl
section
variable {Hd : Type} {enc : TypeId × Value → Hd} {W : World} {fuel : Nat} {sp : Nat → Bool} {held : Bool} {cs : List Value} {p : List MemPlace}
theorem exps_cells (h : DataW.trod enc Tryd.prog W 0 sp held fuel 63 cs = some (Rows.laid_privity_field_exps, p)) : cs = [.int .i64 5, .int .i64 7, .int .i64 13, .int .i64 17, .int .i64 19, .int .i64 31, .int .i64 61] := by
  have hl : cs.length = 7 := (array_len Tryd.underlying63 h).trans (by kernel_rfl)
  have hp := fun i d (hd : _[i]? = some d) => array_part (sz := 1) Tryd.underlying63 (by kernel_rfl) h (i := i) (d := d) hd
  match cs, hl with
  | [c0, c1, c2, c3, c4, c5, c6], _ =>
    obtain ⟨_, _, h0⟩ := hp 0 _ rfl
    obtain ⟨_, _, h1⟩ := hp 1 _ rfl
    obtain ⟨_, _, h2⟩ := hp 2 _ rfl
    obtain ⟨_, _, h3⟩ := hp 3 _ rfl
    obtain ⟨_, _, h4⟩ := hp 4 _ rfl
    obtain ⟨_, _, h5⟩ := hp 5 _ rfl
    obtain ⟨_, _, h6⟩ := hp 6 _ rfl
    have e0 : [c0] = _ := lit_int Tryd.underlying3 h0
    have e1 : [c1] = _ := lit_int Tryd.underlying3 h1
    have e2 : [c2] = _ := lit_int Tryd.underlying3 h2
    have e3 : [c3] = _ := lit_int Tryd.underlying3 h3
    have e4 : [c4] = _ := lit_int Tryd.underlying3 h4
    have e5 : [c5] = _ := lit_int Tryd.underlying3 h5
    have e6 : [c6] = _ := lit_int Tryd.underlying3 h6
    cases e0
    cases e1
    cases e2
    cases e3
    cases e4
    cases e5
    cases e6
    rfl
theorem list7 : ∀ {cs : List Value}, cs.length = 7 → ∃ c0 c1 c2 c3 c4 c5 c6, cs = [c0, c1, c2, c3, c4, c5, c6]
  | [c0, c1, c2, c3, c4, c5, c6], _ => ⟨_, _, _, _, _, _, _, rfl⟩
theorem form_cells {s : List UInt8} {kd : Int} {fr k a b bit : Bool} (h : DataW.trod enc Tryd.prog W 0 sp held fuel 58 cs = some (.agg [.lit (.string s), .lit (.int .i64 kd), .lit (.bool fr), .lit (.bool k), .lit (.bool a), .lit (.bool b), .lit (.bool bit)], p)) :
    ∃ w, cs = formCells w kd fr k a b bit := by
  have hl : cs.length = 7 := (struct_len Tryd.underlying58 h).trans (by kernel_rfl)
  obtain ⟨c0, c1, c2, c3, c4, c5, c6, rfl⟩ := list7 hl
  have hp := fun i f d (hf : _[i]? = some f) (hs : Tryd.prog.cellsOf f.type = 1) (hd : _[i]? = some d) => struct_part Tryd.underlying58 h (i := i) (f := f) (d := d) hf hs hd
  obtain ⟨_, _, h0⟩ := hp 0 _ _ rfl (by kernel_rfl) rfl
  obtain ⟨_, _, h1⟩ := hp 1 _ _ rfl (by kernel_rfl) rfl
  obtain ⟨_, _, h2⟩ := hp 2 _ _ rfl (by kernel_rfl) rfl
  obtain ⟨_, _, h3⟩ := hp 3 _ _ rfl (by kernel_rfl) rfl
  obtain ⟨_, _, h4⟩ := hp 4 _ _ rfl (by kernel_rfl) rfl
  obtain ⟨_, _, h5⟩ := hp 5 _ _ rfl (by kernel_rfl) rfl
  obtain ⟨_, _, h6⟩ := hp 6 _ _ rfl (by kernel_rfl) rfl
  obtain ⟨w, e0, _⟩ := DataW.trod_string Tryd.underlying9 h0
  have e0 : [c0] = [.string w] := e0
  have e1 : [c1] = _ := lit_int Tryd.underlying3 h1
  have e2 : [c2] = _ := lit_bool Tryd.underlying4 h2
  have e3 : [c3] = _ := lit_bool Tryd.underlying4 h3
  have e4 : [c4] = _ := lit_bool Tryd.underlying4 h4
  have e5 : [c5] = _ := lit_bool Tryd.underlying4 h5
  have e6 : [c6] = _ := lit_bool Tryd.underlying4 h6
  cases e0
  cases e1
  cases e2
  cases e3
  cases e4
  cases e5
  cases e6
  exact ⟨w, rfl⟩
theorem forms_cells (h : DataW.trod enc Tryd.prog W 0 sp held fuel 64 cs = some (Rows.laid_privity_circuit_forms, p)) : ∃ w0 w1 w2 w3 w4 w5 w6, cs = formsCells w0 w1 w2 w3 w4 w5 w6 := by
  have hl : cs.length = 49 := (array_len Tryd.underlying64 h).trans (by kernel_rfl)
  have hp := fun i d (hd : _[i]? = some d) => array_part (sz := 7) Tryd.underlying64 (by kernel_rfl) h (i := i) (d := d) hd
  obtain ⟨_, _, h0⟩ := hp 0 _ rfl
  obtain ⟨_, _, h1⟩ := hp 1 _ rfl
  obtain ⟨_, _, h2⟩ := hp 2 _ rfl
  obtain ⟨_, _, h3⟩ := hp 3 _ rfl
  obtain ⟨_, _, h4⟩ := hp 4 _ rfl
  obtain ⟨_, _, h5⟩ := hp 5 _ rfl
  obtain ⟨_, _, h6⟩ := hp 6 _ rfl
  obtain ⟨w0, e0⟩ := form_cells h0
  obtain ⟨w1, e1⟩ := form_cells h1
  obtain ⟨w2, e2⟩ := form_cells h2
  obtain ⟨w3, e3⟩ := form_cells h3
  obtain ⟨w4, e4⟩ := form_cells h4
  obtain ⟨w5, e5⟩ := form_cells h5
  obtain ⟨w6, e6⟩ := form_cells h6
  have step : ∀ (n : Nat) (s : List Value), (cs.drop n).take 7 = s → cs.drop n = s ++ cs.drop (n + 7) := by
    intro n s hs
    rw [← hs, ← List.drop_drop, List.take_append_drop]
  refine ⟨w0, w1, w2, w3, w4, w5, w6, ?_⟩
  have key := step 0 _ e0
  rw [List.drop_zero, step 7 _ e1, step 14 _ e2, step 21 _ e3, step 28 _ e4, step 35 _ e5, step 42 _ e6, List.drop_eq_nil_of_le (by omega : cs.length ≤ 42 + 7)] at key
  rw [key]
  simp only [formsCells, List.append_assoc, List.append_nil]
theorem gates_cells (h : DataW.trod (funcToken Tryd.prog) Tryd.prog W 0 (fun _ => true) true fuel 45 cs = some (.agg [.nil, .held [112, 114, 105, 118, 105, 116, 121, 47, 99, 108, 101, 97, 114, 116, 101, 120, 116, 46, 103, 97, 116, 101, 115, 36, 49], .held [112, 114, 105, 118, 105, 116, 121, 47, 99, 108, 101, 97, 114, 116, 101, 120, 116, 46, 103, 97, 116, 101, 115, 36, 50], .held [112, 114, 105, 118, 105, 116, 121, 47, 99, 108, 101, 97, 114, 116, 101, 120, 116, 46, 103, 97, 116, 101, 115, 36, 51],
      .held [112, 114, 105, 118, 105, 116, 121, 47, 99, 108, 101, 97, 114, 116, 101, 120, 116, 46, 103, 97, 116, 101, 115, 36, 52], .held [112, 114, 105, 118, 105, 116, 121, 47, 99, 108, 101, 97, 114, 116, 101, 120, 116, 46, 103, 97, 116, 101, 115, 36, 53], .held [112, 114, 105, 118, 105, 116, 121, 47, 99, 108, 101, 97, 114, 116, 101, 120, 116, 46, 103, 97, 116, 101, 115, 36, 54]], p)) :
    cs = [.nilFunc, fnV 48, fnV 49, fnV 50, fnV 52, fnV 54, fnV 56] := by
  have hl : cs.length = 7 := (array_len Tryd.underlying45 h).trans (by kernel_rfl)
  have hp := fun i d (hd : _[i]? = some d) => array_part (sz := 1) Tryd.underlying45 (by kernel_rfl) h (i := i) (d := d) hd
  match cs, hl with
  | [c0, c1, c2, c3, c4, c5, c6], _ =>
    obtain ⟨_, _, h0⟩ := hp 0 _ rfl
    obtain ⟨_, _, h1⟩ := hp 1 _ rfl
    obtain ⟨_, _, h2⟩ := hp 2 _ rfl
    obtain ⟨_, _, h3⟩ := hp 3 _ rfl
    obtain ⟨_, _, h4⟩ := hp 4 _ rfl
    obtain ⟨_, _, h5⟩ := hp 5 _ rfl
    obtain ⟨_, _, h6⟩ := hp 6 _ rfl
    obtain rfl : c0 = .nilFunc := nil_func Tryd.underlying44 h0
    obtain rfl : c1 = _ := func_of_trod (f0 := 48) Tryd.underlying44 (by kernel_rfl) h1
    obtain rfl : c2 = _ := func_of_trod (f0 := 49) Tryd.underlying44 (by kernel_rfl) h2
    obtain rfl : c3 = _ := func_of_trod (f0 := 50) Tryd.underlying44 (by kernel_rfl) h3
    obtain rfl : c4 = _ := func_of_trod (f0 := 52) Tryd.underlying44 (by kernel_rfl) h4
    obtain rfl : c5 = _ := func_of_trod (f0 := 54) Tryd.underlying44 (by kernel_rfl) h5
    obtain rfl : c6 = _ := func_of_trod (f0 := 56) Tryd.underlying44 (by kernel_rfl) h6
    rfl
end
theorem of_laid {W : World} (h : laidMetH Tryd.prog Rows.cleartextEvaluateRow.laid W) : GL (wh W) := by
  have hf : funcsAt Tryd.prog W "privity/cleartext.gates" _ := h.funcs (List.mem_cons_of_mem _ (List.mem_cons_of_mem _ (List.mem_singleton.2 rfl)))
  have hp : laidMet Tryd.prog [("privity/field.exps", Rows.laid_privity_field_exps), ("privity/circuit.forms", Rows.laid_privity_circuit_forms)] W := (laidMetH_iff.1 h).1
  obtain ⟨ps, ⟨g1, t1, cs1, fu1, p1, q1, hg1, ht1, hv1, hd1, ⟨g2, t2, cs2, fu2, p2, q2, hg2, ht2, hv2, hd2, _⟩, _⟩, _⟩ := hp
  obtain ⟨g0, t0, cs0, fu0, p0, hg0, ht0, hv0, hd0⟩ := hf
  obtain rfl := Option.some.inj (gExps.symm.trans hg1)
  obtain rfl := Option.some.inj (tExps.symm.trans ht1)
  obtain rfl := Option.some.inj (gForms.symm.trans hg2)
  obtain rfl := Option.some.inj (tForms.symm.trans ht2)
  obtain rfl := Option.some.inj (gGates.symm.trans hg0)
  obtain rfl := Option.some.inj (tGates.symm.trans ht0)
  have c1 := exps_cells hd1
  obtain ⟨w0, w1, w2, w3, w4, w5, w6, c2⟩ := forms_cells hd2
  have c0 := gates_cells hd0
  obtain ⟨e1, b1⟩ := wh_var gExps hv1
  obtain ⟨e2, b2⟩ := wh_var gForms hv2
  obtain ⟨e0, b0⟩ := wh_var gGates hv0
  rw [c1] at b1
  rw [c2] at b2
  rw [c0] at b0
  exact ⟨⟨_, _, _, b0⟩, ⟨_, _, _, b1⟩, ⟨_, _, _, w0, w1, w2, w3, w4, w5, w6, b2⟩⟩
end Go.Proofs.YtpbaoefjkfdgmaaDoor.SL
