/- Part 4 of the proof of LawSe: SlD, one behind the other. -/
import Derived.Test.YtchhpagkdaaglaaDoorSeSlC
set_option linter.unusedVariables false
set_option linter.unusedSimpArgs false
namespace Go.Proofs.YtchhpagkdaaglaaDoor.SL
open Go

def rdCells (H : Heap) (i off m : Nat) : Option (List Value) := match H i with
  | some (.cells cs _ _ _) => if off + m ≤ cs.length then some ((cs.drop off).take m) else none
  | _ => none
def qWZ (ti : TI) (x : Value) (H : Heap) : Option Value := match x with
  | .pointer (some ⟨i, off, none⟩) =>
    match H i with
    | some (.cells cs _ _ _) => if ti.agg then (if off + ti.size ≤ cs.length then some (.agg ((cs.drop off).take ti.size).toArray) else none) else cs[off]?
    | _ => none
  | _ => none
def rdSlice (size : Nat) (H : Heap) (b : Option Addr) (m : Nat) : Option (List Value) :=
  if m = 0 then some [] else match b with
    | some ⟨i, off, none⟩ => rdCells H i off (m * size)
    | _ => none
def zerosL (ti : TI) (n : Nat) : List Value := (List.replicate n ti.zero.cells.toList).flatten

def oNew (cells : List Value) (n : Nat) (e : TypeId) (H : Heap) (k : Nat → Heap → Prop) : Prop := ∀ i, H i = none → k i (hins H i (.cells cells n e true))
def stCells (ti : TI) (cs : List Value) (off : Nat) (v : Value) : Option (List Value) :=
  if ti.agg then (match v with
    | .agg vs => if vs.size = ti.size ∧ off + ti.size ≤ cs.length ∧ vs.toList.all (·.oneCell') = true then some (splice cs off vs.toList) else none
    | _ => none)
  else if ti.size = 1 ∧ v.oneCell' = true ∧ off < cs.length then some (cs.set off v) else none
def p2Z (ti : TI) (x v : Value) (H : Heap) : Option Heap := match x with
  | .pointer (some ⟨i, off, none⟩) =>
    match H i with
    | some (.cells cs n e true) => (stCells ti cs off v).map fun cs' => hins H i (.cells cs' n e true)
    | _ => none
  | _ => none
def oHeap (o : Option Heap) (k : Heap → Prop) : Prop := match o with
  | some H => k H
  | none => False
def oV (o : Option Value) (k : Value → Prop) : Prop := match o with
  | some v => k v
  | none => False
@[simp] theorem oV_some (v : Value) (k : Value → Prop) : oV (some v) k = k v := rfl
@[simp] theorem oHeap_some (v : Heap) (k : Heap → Prop) : oHeap (some v) k = k v := rfl
def oRoom (size : Nat) (b : Option Addr) (p : Nat) (new : List Value) (H : Heap) (k : Heap → Prop) : Prop :=
  if new = [] then k H else match b with
    | some ⟨i, off, none⟩ =>
      (match H i with
      | some (.cells cs n e true) => off + p ≤ cs.length ∧ off + p + new.length ≤ n ∧ k (hins H i (.cells (splice cs (off + p) new) n e true))
      | _ => False)
    | _ => False
def p4Z (te : TI) (e : TypeId) (s x : Value) (H : Heap) (k : Value → Heap → Prop) : Prop :=
  match s, x with
  | .slice sb sl sc, .slice xb xl _ =>
    ∃ old new, rdSlice te.size H sb sl = some old ∧ rdSlice te.size H xb xl = some new ∧ (∀ v ∈ new, v.oneCell' = true) ∧ (sl + xl) * te.bytes ≤ 140737488355328 ∧ sl + xl ≤ 9223372036854775807 ∧
      (sl + xl ≤ sc → oRoom te.size sb (sl * te.size) new H (k (.slice sb (sl + xl) sc))) ∧
      (sc < sl + xl → ∀ i c, H i = none → sl + xl ≤ c → c ≤ 9223372036854775807 → k (.slice (some ⟨i, 0, none⟩) (sl + xl) c) (hins H i (.cells (old ++ new) (c * te.size) e true)))
  | _, _ => False
def oCopy (te : TI) (d s : Value) (H : Heap) (k : Value → Heap → Prop) : Prop :=
  match d, s with
  | .slice db dl _, .slice sb sl _ =>
    ∃ new, rdSlice te.size H sb (min sl dl) = some new ∧ (∀ v ∈ new, v.oneCell' = true) ∧ oRoom te.size db 0 new H (k (.int .i64 (min sl dl : Nat)))
  | _, _ => False

section
variable {P : Program} {w : World} {H : Heap}

theorem run_vLoad {t : TypeId} {ti : TI} {x v : Value} (ht : TIok P t ti) (hs : Sat H w) (h : qWZ ti x H = some v) : (Instr.loadAt t x).run P w = .ok v w := by
  unfold qWZ at h
  split at h
  · rename_i i off
    split at h
    · rename_i cs n e wr hi
      simp only [Instr.loadAt, Sem.run_bind, run_sureAddr, Result.andThen_ok, loadVar, ht.run_isAgg]
      cases ha : ti.agg with
      | true =>
        rw [ha, if_pos rfl] at h
        split at h
        · rename_i hl
          cases h
          have hlen : ((cs.drop off).take ti.size).length = ti.size := by simp; omega
          have := run_loadCells_list (P := P) w ⟨i, off, none⟩ ((cs.drop off).take ti.size) (hs.seg hi off ti.size)
          rw [hlen] at this
          simp [ht.run_size, this]
        · cases h
      | false =>
        rw [ha] at h
        simp only [Bool.false_eq_true, if_false] at h ⊢
        have := hs.cell hi h
        simp [this]
    · cases h
  · cases h

theorem splice_one (cs : List Value) (off : Nat) (v : Value) (h : off < cs.length) : splice cs off [v] = cs.set off v := by
  have e := list_seg_step cs off v [] (by simp; omega)
  simp only [List.append_nil, List.length_nil, Nat.zero_add, Nat.add_zero, List.take_append_drop] at e
  simp only [splice, List.length_cons, List.length_nil, Nat.zero_add]
  exact e.symm
theorem cells_one {v : Value} (h : v.oneCell' = true) : v.cells = #[v] := by cases v <;> first | rfl | (simp [Value.oneCell'] at h)

theorem run_storeVar {t : TypeId} {ti : TI} (ht : TIok P t ti) (a : Addr) (v : Value) (hv : v.cells.size = ti.size) : (storeVar t a v).run P w = (storeCells a v.cells.toList).run P w := by
  unfold storeVar
  simp [ht.run_size, hv]

theorem run_vStore {t : TypeId} {ti : TI} {x v : Value} {H' : Heap} (ht : TIok P t ti) (hs : Sat H w) (h : p2Z ti x v H = some H') :
    ∃ w', (Instr.storeAt t x v).run P w = .ok () w' ∧ Sat H' w' ∧ Keeps H w H' w' := by
  unfold p2Z at h
  split at h
  · rename_i i off
    split at h
    · rename_i cs n e hi
      obtain ⟨cs', hc, rfl⟩ := Option.map_eq_some_iff.1 h
      have hlen := hs.len hi
      unfold stCells at hc
      cases ha : ti.agg with
      | true =>
        rw [ha, if_pos rfl] at hc
        split at hc
        · rename_i vs
          split at hc
          · rename_i hb
            cases hc
            obtain ⟨hb1, hb2, hb3⟩ := hb
            obtain ⟨w', hr, h1, h2⟩ := hs.splice (P := P) hi (p := off) (vs := vs.toList) (by omega) (by simp; omega) (fun v hv => List.all_eq_true.1 hb3 v hv)
            refine ⟨w', ?_, h1, h2⟩
            simp only [Instr.storeAt, Sem.run_bind, run_sureAddr, Result.andThen_ok]
            rw [run_storeVar ht _ _ (by simpa [Value.cells] using hb1)]
            exact hr
          · cases hc
        · cases hc
      | false =>
        rw [ha] at hc
        simp only [Bool.false_eq_true, if_false] at hc
        split at hc
        · rename_i hb
          cases hc
          obtain ⟨hb1, hb2, hb3⟩ := hb
          obtain ⟨w', hr, h1, h2⟩ := hs.splice (P := P) hi (p := off) (vs := [v]) (by omega) (by simp; omega) (fun u hu => by simp at hu; subst hu; exact hb2)
          rw [splice_one cs off v hb3] at h1 h2
          refine ⟨w', ?_, h1, h2⟩
          simp only [Instr.storeAt, Sem.run_bind, run_sureAddr, Result.andThen_ok]
          rw [run_storeVar ht _ _ (by rw [cells_one hb2]; simp [hb1]), cells_one hb2]
          exact hr
        · cases hc
    · cases h
  · cases h

theorem new_sat {cells : List Value} {n : Nat} {e : TypeId} {k : Nat → Heap → Prop} (hs : Sat H w) (h : oNew cells n e H k) (c : Array Value) (hn : c.size = n) (ht : c.toList.take cells.length = cells) :
    ∃ H', k w.heap.size H' ∧ Sat H' (w.alloc (.cells c e)) ∧ Keeps H w H' (w.alloc (.cells c e)) :=
  ⟨_, h w.heap.size (hs.fresh (Nat.le_refl _)), hs.alloc (b := .cells cells n e true) (o := .cells c e) ⟨rfl, hn, ht, fun _ => rfl⟩, Keeps.alloc _ _⟩

theorem rd_cells {size m : Nat} {b : Option Addr} {cs : List Value} (hs : Sat H w) (h : rdSlice size H b m = some cs) :
    cs.length = m * size ∧ ∀ ad, b = some ad → ∀ j v, cs[j]? = some v → w.cell? (ad.add j) = some v := by
  unfold rdSlice at h
  split at h
  · rename_i hm
    cases h
    subst hm
    exact ⟨by simp, fun _ _ j v hj => by simp at hj⟩
  · split at h
    · rename_i i off
      unfold rdCells at h
      split at h
      · rename_i cs0 n e wr hi
        split at h
        · rename_i hl
          cases h
          exact ⟨by simp; omega, fun ad had => by cases had; exact hs.seg hi off _⟩
        · cases h
      · cases h
    · cases h
theorem rd_none {size m : Nat} {cs : List Value} (h : rdSlice size H none m = some cs) : m = 0 ∧ cs = [] := by
  unfold rdSlice at h
  split at h
  · cases h; exact ⟨by assumption, rfl⟩
  · cases h
theorem run_first {size m c l : Nat} {b : Option Addr} {cs : List Value} (hs : Sat H w) (h : rdSlice size H b m = some cs) :
    (Builtin.firstCells size m (.slice b l c)).run P w = .ok cs.toArray w := by
  obtain ⟨hl, hc⟩ := rd_cells hs h
  cases b with
  | none =>
    obtain ⟨rfl, rfl⟩ := rd_none h
    simp [Builtin.firstCells]
  | some ad => exact run_firstCells_some w size m ad l c cs hl (hc ad rfl)

theorem run_oRoom {size p : Nat} {b : Option Addr} {new : List Value} {k : Heap → Prop} (hs : Sat H w) (h1 : ∀ v ∈ new, v.oneCell' = true) (hb : b = none → new = []) (h : oRoom size b p new H k) :
    ∃ w' H', (match b with | some a => storeCells (a.add p) new | none => pure () : Sem Unit).run P w = .ok () w' ∧ k H' ∧ Sat H' w' ∧ Keeps H w H' w' := by
  unfold oRoom at h
  by_cases hn : new = []
  · rw [if_pos hn] at h
    subst hn
    exact ⟨w, H, by cases b <;> simp [storeCells], h, hs, Keeps.refl _ _⟩
  · rw [if_neg hn] at h
    split at h
    · rename_i i off
      split at h
      · rename_i cs n e hi
        obtain ⟨ha, hb', hk⟩ := h
        obtain ⟨w', hr, h2, h3⟩ := hs.splice (P := P) hi (p := off + p) (vs := new) ha hb' h1
        exact ⟨w', _, by simpa [addr_add] using hr, hk, h2, h3⟩
      · cases h
    · cases h

theorem zeroCells_size (z : Array Value) (n : Nat) : (Builtin.zeroCells z n).size = n * z.size := by simp [Builtin.zeroCells]

theorem run_oAppend {t ty e : TypeId} {ti te : TI} {s x : Value} {k : Value → Heap → Prop} (ht : TIok P t ti) (hk : ti.kind = .slice e) (he : TIok P e te) (hz : te.zero.cells.size = te.size)
    (hs : Sat H w) (h : p4Z te e s x H k) : ∃ v w' H', (Builtin.append_ #[t, t] ty #[s, x]).run P w = .ok v w' ∧ k v H' ∧ Sat H' w' ∧ Keeps H w H' w' := by
  have hu := ht.slice hk
  obtain ⟨i, hi, hz0, hsz, hby⟩ := he.info
  unfold p4Z at h
  split at h
  · rename_i sb sl sc xb xl xc
    obtain ⟨old, new, ho, hnw, h1, hbd, hmax, hroom, hgrow⟩ := h
    have hl := (rd_cells hs ho).1
    have hl2 := (rd_cells hs hnw).1
    by_cases hr : sl + xl ≤ sc
    · have hbn : sb = none → new = [] ∨ True := fun _ => .inr trivial
      have hx : (Builtin.firstCells te.size xl (.slice xb xl xc)).run P w = .ok new.toArray w := run_first hs hnw
      have hroom' := hroom hr
      by_cases hb : sb = none ∧ new ≠ []
      · obtain ⟨rfl, hn⟩ := hb
        unfold oRoom at hroom'
        rw [if_neg hn] at hroom'
        exact hroom'.elim
      · obtain ⟨w', H', hst, hk', h2, h3⟩ := run_oRoom (P := P) hs h1 (fun e => by by_cases hn : new = []; exact hn; exact absurd ⟨e, hn⟩ hb) hroom'
        refine ⟨_, w', H', ?_, hk', h2, h3⟩
        cases sb with
        | none =>
          simp only at hst
          simp [Builtin.append_, run_underlying hu, Go.sizeOf, typeInfo, hi, Builtin.lenOf, hr, hsz, hx]
          simpa using hst
        | some a =>
          simp only at hst
          simp [Builtin.append_, run_underlying hu, Go.sizeOf, typeInfo, hi, Builtin.lenOf, hr, hsz, hx, hst]
    · have hgt : sc < sl + xl := by omega
      have hx : (Builtin.firstCells te.size xl (.slice xb xl xc)).run P w.drew = .ok new.toArray w.drew := run_first hs.drew hnw
      have hold : (Builtin.firstCells te.size sl (.slice sb sl sc)).run P w.drew = .ok old.toArray w.drew := run_first hs.drew ho
      have h63' : ¬ (9223372036854775807 < ((sl : Int) + (xl : Int))) := by omega
      have hfit := growslice_fits (bytes := i.bytes) hgt (by rw [hby]; exact hbd)
      have h48' : ¬ (281474976710656 < Builtin.nextslicecap (sl + xl) sc * i.bytes) := by omega
      have hge := grownCap_ge w (sl + xl) sc e
      have hle : grownCap w (sl + xl) sc e ≤ 9223372036854775807 := by
        have hlt := Nat.mod_lt (w.tape w.drawn (.appendCap (sl + xl) sc e)) (show 0 < 2 ^ 63 - (sl + xl) by omega)
        simp only [grownCap, Question.cut]
        omega
      have hcells : (old.toArray ++ new.toArray ++ Builtin.zeroCells te.zero.cells (grownCap w (sl + xl) sc e - (sl + xl))).size = grownCap w (sl + xl) sc e * te.size := by
        simp only [Array.size_append, List.size_toArray, zeroCells_size, hz, hl, hl2, ← Nat.add_mul]
        congr 1
        omega
      have hkk := hgrow hgt w.heap.size (grownCap w (sl + xl) sc e) (hs.fresh (Nat.le_refl _)) hge hle
      refine ⟨_, w.drew.alloc (.cells (old.toArray ++ new.toArray ++ Builtin.zeroCells te.zero.cells (grownCap w (sl + xl) sc e - (sl + xl))) e), _, ?_, hkk, ?_, ?_⟩
      · simp [Builtin.append_, run_underlying hu, Go.sizeOf, typeInfo, zeroValue, hi, hz0, hsz, Builtin.lenOf, hr, h63', h48', Question.forced, hx, hold, newRow, grownCap]
        first | done | (congr 2; apply Array.ext'; simp [List.append_assoc])
      · refine Sat.alloc (H := H) (w := w.drew) hs.drew (b := .cells (old ++ new) (grownCap w (sl + xl) sc e * te.size) e true) ⟨rfl, hcells, ?_, fun _ => rfl⟩
        simp only [Array.toList_append, List.append_assoc]
        rw [← List.append_assoc]
        exact List.take_left
      · exact (Keeps.drew H w).trans (Keeps.alloc (H := H) (w := w.drew) _ _)
  · cases h

theorem run_oCopy {t t' ty e : TypeId} {ti te : TI} {d s : Value} {k : Value → Heap → Prop} (ht : TIok P t ti) (hk : ti.kind = .slice e) (he : TIok P e te)
    (hs : Sat H w) (h : oCopy te d s H k) : ∃ v w' H', (Builtin.copy_ #[t, t'] ty #[d, s]).run P w = .ok v w' ∧ k v H' ∧ Sat H' w' ∧ Keeps H w H' w' := by
  have hu := ht.slice hk
  obtain ⟨i, hi, hz0, hsz, hby⟩ := he.info
  unfold oCopy at h
  split at h
  · rename_i db dl dc sb sl sc
    obtain ⟨new, hnw, h1, hroom⟩ := h
    have hx : (Builtin.firstCells te.size (min sl dl) (.slice sb sl sc)).run P w = .ok new.toArray w := run_first hs hnw
    by_cases hb : db = none ∧ new ≠ []
    · obtain ⟨rfl, hn⟩ := hb
      unfold oRoom at hroom
      rw [if_neg hn] at hroom
      exact hroom.elim
    · obtain ⟨w', H', hst, hk', h2, h3⟩ := run_oRoom (P := P) hs h1 (fun e => by by_cases hn : new = []; exact hn; exact absurd ⟨e, hn⟩ hb) hroom
      refine ⟨_, w', H', ?_, hk', h2, h3⟩
      have hm : Nat.min sl dl = min sl dl := rfl
      cases db with
      | none =>
        simp only at hst
        simp [Builtin.copy_, run_underlying hu, Go.sizeOf, typeInfo, hi, Builtin.lenOf, hsz, hm, hx, goInt]
        simpa using hst
      | some a =>
        simp only at hst
        have e0 : a.add 0 = a := by simp [Addr.add]
        rw [e0] at hst
        simp [Builtin.copy_, run_underlying hu, Go.sizeOf, typeInfo, hi, Builtin.lenOf, hsz, hm, hx, goInt, hst]
  · cases h

theorem flatten_replicate (z : List Value) : ∀ (n i : Nat), i < n * z.length → (List.replicate n z).flatten[i]? = z[i % z.length]?
  | 0, i, h => by simp at h
  | n + 1, i, h => by
    rw [List.replicate_succ, List.flatten_cons, List.getElem?_append]
    split
    · rename_i hi
      rw [Nat.mod_eq_of_lt hi]
    · rename_i hi
      rw [flatten_replicate z n _ (by rw [Nat.succ_mul] at h; omega)]
      congr 1
      exact (Nat.mod_eq_sub_mod (by omega)).symm
theorem zeros_eq (z : Array Value) (n s : Nat) (hs : z.size = s) : ((Array.range (n * s)).map (z[· % z.size]!)).toList = (List.replicate n z.toList).flatten := by
  subst hs
  apply List.ext_getElem?
  intro i
  by_cases hi : i < n * z.size
  · rw [flatten_replicate z.toList n i (by simpa using hi)]
    have hz : 0 < z.size := by
      rcases Nat.eq_zero_or_pos z.size with h0 | h0
      · rw [h0] at hi; omega
      · exact h0
    have hm := Nat.mod_lt i hz
    simp [hi, hm]
  · have h1 : (List.replicate n z.toList).flatten.length = n * z.size := by simp
    rw [List.getElem?_eq_none (by simp; omega), List.getElem?_eq_none (by rw [h1]; omega)]
end
end Go.Proofs.YtchhpagkdaaglaaDoor.SL
