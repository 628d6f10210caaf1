/- Part 24 of the proof of LawSe: VdA NetB NetC NetD NetE NetF NetG NetH Part VdB VdC VdN VdD VdE VdF VdG, one behind the other. -/
import Derived.Test.YtchhpagkdaaglaaDoorSec
import Derived.Test.YtchhpagkdaaglaaDoorSeb
set_option linter.unusedVariables false
set_option linter.unusedSimpArgs false
namespace Go.Proofs.YtchhpagkdaaglaaDoor.SL

section
open Go

def GI (G H : Heap) (v : Value) (xs : List Int) : Prop := Grown G H 1 22 v xs.length (xs.map (.int .u64))
section
variable {G H K : Heap} {v : Value} {xs : List Int} {i : Nat}
theorem GI.le (h : GI G H v xs) : Le G H := h.1
theorem GI.len (h : GI G H v xs) : vLen v = some (.int .i64 xs.length) := h.2.1.len
theorem GI.mono (h : GI G H v xs) (hl : Le H K) : GI G K v xs := Grown.le h hl
theorem GI.made (h : GI G H v xs) : ∃ N, New G H N ∧ Sl (eInt .u64) N v xs := Grown.made (e := eInt .u64) h fun K i x hx => one_get _ i (.int .u64 x) (by rw [List.getElem?_map, hx]; rfl)
theorem GI.sl (h : GI G H v xs) : Sl (eInt .u64) H v xs := h.2.1.sl_int
theorem GI.ix (h : GI G H v xs) (hi : i < xs.length) : ∃ p, p1Z 1 v (.int .i64 i) = some p ∧ qWZ ty22 p H = some (.int .u64 xs[i]) ∧ ∀ y : Int, ∃ H', p2Z ty22 p (.int .u64 y) H = some H' ∧ GI G H' v (xs.set i y) := by
  obtain ⟨p, x, h1, h2, h3, h4⟩ := Grown.ix h .i64 hi
  have e : x = .int .u64 xs[i] := by
    rw [List.getElem?_map, List.getElem?_eq_getElem hi] at h2
    exact (Option.some.inj h2).symm
  subst e
  refine ⟨p, h1, h3 _ rfl, fun y => ?_⟩
  obtain ⟨H', s1, s2, _⟩ := h4 ty22 (.int .u64 y) rfl rfl rfl
  refine ⟨H', s1, ?_⟩
  unfold GI
  rw [List.length_set, List.map_set]
  exact s2
theorem GI.make {n : Nat} {k : Value → Heap → Prop} (hn : n ≤ 1000000) (hk : ∀ v H', GI H H' v (List.replicate n 0) → k v H') : oMake ty22 22 (.int .i64 n) (.int .i64 n) H k := by
  refine oMake_own (te := ty22) rfl (by show 8 * n ≤ _; omega) (by omega) fun w H2 hg => hk w H2 ?_
  rw [zerosL_one rfl] at hg
  unfold GI
  rw [List.length_replicate, List.map_replicate]
  exact hg
theorem GI.snoc {y : Int} {k : Value → Heap → Prop} (h : GI G H v xs) (hl : xs.length ≤ 1000000) (hk : ∀ v' H', GI G H' v' (xs ++ [y]) → k v' H') : p3Z ty22 22 1 [((0, 1), .int .u64 y)] H fun s H1 => p4Z ty22 22 v s H1 k := by
  refine Grown.append (te := ty22) h rfl rfl (fun c hc => by have : c = .int .u64 y := List.mem_singleton.1 hc; rw [this]; rfl) (by decide) (by show (xs.length + 1) * 8 ≤ _; omega) (by omega) fun v' H' hg => hk v' H' ?_
  unfold GI
  rw [List.length_append, List.map_append]
  exact hg
theorem GI.nil (H : Heap) : GI H H (.slice none 0 0) [] := Grown.nil _ _ _
theorem GI.more {w : Value} {ys : List Int} {k : Value → Heap → Prop} (h : GI G H v xs) (hw : Sl (eInt .u64) H w ys) (hl : xs.length ≤ 100000) (hl2 : ys.length ≤ 100000) (hk : ∀ v' H', GI G H' v' (xs ++ ys) → k v' H') : p4Z ty22 22 v w H k := by
  obtain ⟨b, cap, rfl, c1, c2, c3⟩ := hw.ints
  by_cases h0 : ys.length = 0
  · have e : ys = [] := List.eq_nil_of_length_eq_zero h0
    subst e
    obtain ⟨vb, vc, hv, hc, hr⟩ := h.2.1.read
    subst hv
    refine ⟨_, [], hr, by simp [rdSlice], (fun x hx => by cases hx), by show (xs.length + 0) * 8 ≤ _; omega, by show xs.length + 0 ≤ _; omega, fun _ => ?_, fun h => absurd h (by simp; omega)⟩
    simp only [oRoom, if_true]
    refine hk _ _ ?_
    rw [List.append_nil]
    exact h
  · refine oAppend_own (te := ty22) (n := xs.length) h.2.1 c3 (fun x hx => by obtain ⟨y, _, rfl⟩ := List.mem_map.1 hx; rfl) (by omega) (by decide) (by show (xs.length + ys.length) * 8 ≤ _; omega) (by omega) (by rw [List.length_map]; exact (Nat.mul_one _).symm) fun j c hj hc hc2 => hk _ _ ?_
    have hGj : G j = none := by
      rcases hj with hj | hj
      · exact h.2.2 j hj
      · exact none_le h.1 hj
    unfold GI
    rw [List.length_append, List.map_append]
    exact ⟨h.1.put hGj, .inr ⟨j, c, rfl, hc, hc2, hins_self _ _ _, by simp⟩, fun b hb => by cases hb; exact hGj⟩
end
theorem mix_len {α : Type} {A B : List α} (h : A.length = B.length) {j : Nat} (hj : j ≤ B.length) : (A.take j ++ B.drop j).length = B.length := by simp; omega
theorem mix_get {α : Type} {A B : List α} (h : A.length = B.length) {j : Nat} (hj : j < B.length) : (A.take j ++ B.drop j)[j]'(by rw [mix_len h (by omega)]; exact hj) = B[j] := by
  rw [List.getElem_append_right (by simp; omega)]
  simp only [List.length_take, List.getElem_drop]
  congr 1
  omega
theorem mix_set {α : Type} {A B : List α} (h : A.length = B.length) {j : Nat} (hj : j < B.length) : (A.take j ++ B.drop j).set j (A[j]'(by omega)) = A.take (j + 1) ++ B.drop (j + 1) := by
  apply List.ext_getElem?
  intro q
  by_cases e : j = q
  · subst e
    rw [List.getElem?_set_self (by rw [mix_len h (by omega)]; exact hj), List.getElem?_append_left (by simp; omega), List.getElem?_take, if_pos (by omega), List.getElem?_eq_getElem]
  · rw [List.getElem?_set_ne e]
    by_cases hq : q < j
    · rw [List.getElem?_append_left (by simp; omega), List.getElem?_append_left (by simp; omega), List.getElem?_take, List.getElem?_take, if_pos hq, if_pos (by omega)]
    · rw [List.getElem?_append_right (by simp; omega), List.getElem?_append_right (by simp; omega)]
      simp only [List.length_take, List.getElem?_drop]
      congr 1
      omega
def evalP (p x : Int) : List Int → Int
  | [] => 0
  | c :: r => (evalP p x r * x % p + c) % p
theorem evalP_rng {p x : Int} (hp : 0 < p) : ∀ f, 0 ≤ evalP p x f ∧ evalP p x f < p
  | [] => ⟨Int.le_refl _, hp⟩
  | c :: r => ⟨Int.emod_nonneg _ (by omega), Int.emod_lt_of_pos _ hp⟩
section
variable {H : Heap} {v : Value} {p x : Int} {f : List Int}
theorem eval_spec (hv : Sl (eInt .u64) H v f) (hp : Supp p) (hf : rng p f) (h0 : 0 ≤ x) (h1 : x < 18446744073709551616) : qVZ Tryd.prog 144 [.int .u64 p, v, .int .u64 x] H (Val (.int .u64 (evalP p x f)) H) := by
  have hpp := hp.pos
  have hmx := hv.max
  apply call144
  unfold m144 m144_2
  (repeat (first | refine qQZ (qDZ _) ?_ | refine qQZ (qEZ _) ?_ | refine qQZ (qFZ _ _) ?_ | refine qQZ (qGZ _ _) ?_ | refine qQZ (by (try with_reducible first | refine gV_F ?_ | refine gV_T ?_); first | exact hv.len | exact q1Z _ _ | exact q2Z _ _ _ | exact q3Z _ | exact q4Z _ | exact q5Z _ _ _ | exact q6Z _ _ _ | exact q7Z _ _ _ | exact q8Z _ _ _ | exact q9Z _ _ _ | exact q0Z _ _ _ | exact qHZ (by omega) (by omega) | exact qIZ (by omega) (by omega) | exact qAZ _ | exact qBZ _ _ _ | exact qCZ _ _ _) ?_ | refine qQZ (gV_F rfl) ?_ | refine qQZ (gV_T rfl) ?_))
  suffices key : ∀ k : Nat, k ≤ f.length → L144_3 (.int .u64 p) v (.int .u64 x) (.int .u64 (evalP p x (f.drop k))) (.int .i64 ((k : Int) - 1)) H _ _ by
    have := key f.length (Nat.le_refl _)
    rw [List.drop_of_length_le (Nat.le_refl _)] at this
    exact this
  intro k
  induction k with
  | zero =>
    intro hk
    apply L144_3_round
    unfold m144_4
    (repeat (first | refine qQZ (qDZ _) ?_ | refine qQZ (qEZ _) ?_ | refine qQZ (qFZ _ _) ?_ | refine qQZ (qGZ _ _) ?_ | refine qQZ (by (try with_reducible first | refine gV_F ?_ | refine gV_T ?_); first | exact q1Z _ _ | exact q2Z _ _ _ | exact q3Z _ | exact q4Z _ | exact q5Z _ _ _ | exact q6Z _ _ _ | exact q7Z _ _ _ | exact q8Z _ _ _ | exact q9Z _ _ _ | exact q0Z _ _ _ | exact qHZ (by omega) (by omega) | exact qIZ (by omega) (by omega) | exact qAZ _ | exact qBZ _ _ _ | exact qCZ _ _ _) ?_ | refine qQZ (gV_F rfl) ?_ | refine qQZ (gV_T rfl) ?_))
    refine qJZ (fun hlt => absurd hlt (by omega)) (fun _ => ?_)
    exact ⟨rfl, rfl⟩
  | succ k ih =>
    intro hk
    apply L144_3_round
    unfold m144_4
    (repeat (first | refine qQZ (qDZ _) ?_ | refine qQZ (qEZ _) ?_ | refine qQZ (qFZ _ _) ?_ | refine qQZ (qGZ _ _) ?_ | refine qQZ (by (try with_reducible first | refine gV_F ?_ | refine gV_T ?_); first | exact q1Z _ _ | exact q2Z _ _ _ | exact q3Z _ | exact q4Z _ | exact q5Z _ _ _ | exact q6Z _ _ _ | exact q7Z _ _ _ | exact q8Z _ _ _ | exact q9Z _ _ _ | exact q0Z _ _ _ | exact qHZ (by omega) (by omega) | exact qIZ (by omega) (by omega) | exact qAZ _ | exact qBZ _ _ _ | exact qCZ _ _ _) ?_ | refine qQZ (gV_F rfl) ?_ | refine qQZ (gV_T rfl) ?_))
    refine qJZ (fun hlt => ?_) (fun hlt => absurd (by omega) hlt)
    rw [show ((k + 1 : Nat) : Int) - 1 = k by omega]
    obtain ⟨pt, a1, a2⟩ := hv.word (i := k) (by omega) (ti := ty22) rfl
    (repeat (first | refine qQZ (qDZ _) ?_ | refine qQZ (qEZ _) ?_ | refine qQZ (qFZ _ _) ?_ | refine qQZ (qGZ _ _) ?_ | refine qQZ (by (try with_reducible first | refine gV_F ?_ | refine gV_T ?_); first | exact a1 | exact a2 | exact q1Z _ _ | exact q2Z _ _ _ | exact q3Z _ | exact q4Z _ | exact q5Z _ _ _ | exact q6Z _ _ _ | exact q7Z _ _ _ | exact q8Z _ _ _ | exact q9Z _ _ _ | exact q0Z _ _ _ | exact qHZ (by omega) (by omega) | exact qIZ (by omega) (by omega) | exact qAZ _ | exact qBZ _ _ _ | exact qCZ _ _ _) ?_ | refine qQZ (gV_F rfl) ?_ | refine qQZ (gV_T rfl) ?_))
    have he := evalP_rng (x := x) (show 0 < p by omega) (f.drop (k + 1))
    have hc := hf f[k] (List.getElem_mem _)
    refine oRC_val (fmul_spec H hp he.1 (by omega) h0 h1) ⟨a2, ?_⟩
    have hm := Int.emod_nonneg (evalP p x (f.drop (k + 1)) * x) (show p ≠ 0 by omega)
    have hm2 := Int.emod_lt_of_pos (evalP p x (f.drop (k + 1)) * x) (show 0 < p by omega)
    refine oRC_val (fadd_spec H hp hm hc.1 (by omega)) ?_
    (repeat (first | refine qQZ (qDZ _) ?_ | refine qQZ (qEZ _) ?_ | refine qQZ (qFZ _ _) ?_ | refine qQZ (qGZ _ _) ?_ | refine qQZ (by (try with_reducible first | refine gV_F ?_ | refine gV_T ?_); first | exact q1Z _ _ | exact q2Z _ _ _ | exact q3Z _ | exact q4Z _ | exact q5Z _ _ _ | exact q6Z _ _ _ | exact q7Z _ _ _ | exact q8Z _ _ _ | exact q9Z _ _ _ | exact q0Z _ _ _ | exact qHZ (by omega) (by omega) | exact qIZ (by omega) (by omega) | exact qAZ _ | exact qBZ _ _ _ | exact qCZ _ _ _) ?_ | refine qQZ (gV_F rfl) ?_ | refine qQZ (gV_T rfl) ?_))
    have e : (evalP p x (f.drop (k + 1)) * x % p + f[k]) % p = evalP p x (f.drop k) := by
      rw [List.drop_eq_getElem_cons (show k < f.length by omega)]
      rfl
    rw [e]
    exact ih (by omega)
end
def powP (p x : Int) : Nat → Int
  | 0 => 1
  | i + 1 => powP p x i * x % p
def addRow (p w : Int) (out row : List Int) : List Int := List.zipWith (fun o a => (o + a * w % p) % p) out row
def rowAcc (p x : Int) (m : List (List Int)) : Nat → List Int
  | 0 => List.replicate m.length 0
  | i + 1 => addRow p (powP p x i) (rowAcc p x m i) (m.getD i [])
def rowL (p x : Int) (m : List (List Int)) : List Int := rowAcc p x m m.length
structure SqM (p : Int) (m : List (List Int)) : Prop where
  sq : ∀ r ∈ m, r.length = m.length
  rng : ∀ r ∈ m, rng p r
theorem SqM.row {p : Int} {m : List (List Int)} (h : SqM p m) {i : Nat} (hi : i < m.length) : (m.getD i []).length = m.length ∧ SL.rng p (m.getD i []) := by
  have e : m.getD i [] = m[i] := by simp [hi]
  rw [e]
  exact ⟨h.sq _ (List.getElem_mem hi), h.rng _ (List.getElem_mem hi)⟩
theorem addRow_len {p w : Int} {out row : List Int} (h : out.length = row.length) : (addRow p w out row).length = out.length := by simp [addRow]; omega
theorem rowAcc_len {p x : Int} {m : List (List Int)} (h : SqM p m) : ∀ i, i ≤ m.length → (rowAcc p x m i).length = m.length
  | 0, _ => by simp [rowAcc]
  | i + 1, hi => by
    have h1 := rowAcc_len (x := x) h i (by omega)
    have h2 := (h.row (i := i) (by omega)).1
    rw [rowAcc, addRow_len (by omega), h1]
theorem addRow_rng {p w : Int} {out row : List Int} (hp : 0 < p) : rng p (addRow p w out row) := fun x hx => by
  obtain ⟨i, hi, rfl⟩ := List.mem_iff_getElem.1 hx
  simp only [addRow, List.getElem_zipWith]
  exact ⟨Int.emod_nonneg _ (by omega), Int.emod_lt_of_pos _ hp⟩
theorem rowAcc_rng {p x : Int} {m : List (List Int)} (hp : 0 < p) : ∀ i, rng p (rowAcc p x m i)
  | 0 => fun y hy => by rw [(List.mem_replicate.1 hy).2]; omega
  | i + 1 => addRow_rng hp
theorem powP_rng {p x : Int} (hp : 1 < p) : ∀ i, 0 ≤ powP p x i ∧ powP p x i < p
  | 0 => ⟨by simp [powP], hp⟩
  | i + 1 => ⟨Int.emod_nonneg _ (by omega), Int.emod_lt_of_pos _ (by omega)⟩
section
variable {G H : Heap} {v : Value} {p x : Int} {m : List (List Int)}
theorem row_in (hp : Supp p) {row : List Int} {u : Value} (hu : Sl (eInt .u64) G u row) (hr : rng p row) {w : Int} (hw0 : 0 ≤ w) (hw1 : w < p) {out : List Int} (ho : rng p out) (hl : out.length = row.length) {x2 x16 x17 x18 : Value} {kn kx1 : Value → Value → Value → Value → Value → Value → Value → Heap → Prop} {kx0 : Value → Heap → Prop} {Q : Ending → Heap → Prop} {ov : Value}
    (hk : ∀ K, GI G K ov (addRow p w out row) → kn (.int .u64 p) x2 ov (.int .u64 w) x16 x17 x18 K) :
    ∀ (d j : Nat) (K : Heap), row.length - j = d → j ≤ row.length → GI G K ov ((addRow p w out row).take j ++ out.drop j) → L126_10 (.int .u64 p) x2 ov (.int .u64 w) x16 x17 x18 u (.int .i64 row.length) (.int .i64 j) K kn kx1 kx0 Q := by
  have hal := addRow_len (p := p) (w := w) hl
  have hpp := hp.pos
  have hmx := hu.max
  intro d
  induction d with
  | zero =>
    intro j K hd hj h
    apply L126_10_round
    unfold m126_11
    (repeat (first | refine qQZ (qDZ _) ?_ | refine qQZ (qEZ _) ?_ | refine qQZ (qFZ _ _) ?_ | refine qQZ (qGZ _ _) ?_ | refine qQZ (by (try with_reducible first | refine gV_F ?_ | refine gV_T ?_); first | exact q1Z _ _ | exact q2Z _ _ _ | exact q3Z _ | exact q4Z _ | exact q5Z _ _ _ | exact q6Z _ _ _ | exact q7Z _ _ _ | exact q8Z _ _ _ | exact q9Z _ _ _ | exact q0Z _ _ _ | exact qHZ (by omega) (by omega) | exact qIZ (by omega) (by omega) | exact qAZ _ | exact qBZ _ _ _ | exact qCZ _ _ _) ?_ | refine qQZ (gV_F rfl) ?_ | refine qQZ (gV_T rfl) ?_))
    refine qJZ (fun hlt => absurd hlt (by omega)) (fun _ => hk K ?_)
    rw [List.take_of_length_le (by omega), List.drop_of_length_le (by omega), List.append_nil] at h
    exact h
  | succ d ih =>
    intro j K hd hj h
    apply L126_10_round
    unfold m126_11
    (repeat (first | refine qQZ (qDZ _) ?_ | refine qQZ (qEZ _) ?_ | refine qQZ (qFZ _ _) ?_ | refine qQZ (qGZ _ _) ?_ | refine qQZ (by (try with_reducible first | refine gV_F ?_ | refine gV_T ?_); first | exact q1Z _ _ | exact q2Z _ _ _ | exact q3Z _ | exact q4Z _ | exact q5Z _ _ _ | exact q6Z _ _ _ | exact q7Z _ _ _ | exact q8Z _ _ _ | exact q9Z _ _ _ | exact q0Z _ _ _ | exact qHZ (by omega) (by omega) | exact qIZ (by omega) (by omega) | exact qAZ _ | exact qBZ _ _ _ | exact qCZ _ _ _) ?_ | refine qQZ (gV_F rfl) ?_ | refine qQZ (gV_T rfl) ?_))
    refine qJZ (fun hlt => ?_) (fun hlt => absurd (by omega) hlt)
    have hjl : j < row.length := by omega
    obtain ⟨pu, a1, a2⟩ := hu.word hjl (ti := ty22) rfl
    obtain ⟨po, b1, b2, b3⟩ := h.ix (i := j) (by rw [mix_len hal (by omega)]; omega)
    rw [mix_get hal (by omega)] at b2
    (repeat (first | refine qQZ (qDZ _) ?_ | refine qQZ (qEZ _) ?_ | refine qQZ (qFZ _ _) ?_ | refine qQZ (qGZ _ _) ?_ | refine qQZ (by (try with_reducible first | refine gV_F ?_ | refine gV_T ?_); first | exact a1 | exact qKZ h.le a2 | exact b1 | exact b2 | exact q1Z _ _ | exact q2Z _ _ _ | exact q3Z _ | exact q4Z _ | exact q5Z _ _ _ | exact q6Z _ _ _ | exact q7Z _ _ _ | exact q8Z _ _ _ | exact q9Z _ _ _ | exact q0Z _ _ _ | exact qHZ (by omega) (by omega) | exact qIZ (by omega) (by omega) | exact qAZ _ | exact qBZ _ _ _ | exact qCZ _ _ _) ?_ | refine qQZ (gV_F rfl) ?_ | refine qQZ (gV_T rfl) ?_))
    have hrj := hr row[j] (List.getElem_mem hjl)
    have hoj := ho out[j] (List.getElem_mem (by omega))
    refine oRC_val (fmul_spec K hp hrj.1 (by omega) hw0 (by omega)) ⟨b2, ?_⟩
    have hm := Int.emod_nonneg (row[j] * w) (show p ≠ 0 by omega)
    have hm2 := Int.emod_lt_of_pos (row[j] * w) (show 0 < p by omega)
    refine oRC_val (fadd_spec K hp hoj.1 hm (by omega)) ?_
    obtain ⟨K', c1, c2⟩ := b3 ((out[j] + row[j] * w % p) % p)
    (repeat (first | refine qQZ (qDZ _) ?_ | refine qQZ (qEZ _) ?_ | refine qQZ (qFZ _ _) ?_ | refine qQZ (qGZ _ _) ?_ | refine qQZ (by (try with_reducible first | refine gV_F ?_ | refine gV_T ?_); first | exact b1 | exact q1Z _ _ | exact q2Z _ _ _ | exact q3Z _ | exact q4Z _ | exact q5Z _ _ _ | exact q6Z _ _ _ | exact q7Z _ _ _ | exact q8Z _ _ _ | exact q9Z _ _ _ | exact q0Z _ _ _ | exact qHZ (by omega) (by omega) | exact qIZ (by omega) (by omega) | exact qAZ _ | exact qBZ _ _ _ | exact qCZ _ _ _) ?_ | refine qQZ (gV_F rfl) ?_ | refine qQZ (gV_T rfl) ?_))
    refine p8Z c1 ?_
    (repeat (first | refine qQZ (qDZ _) ?_ | refine qQZ (qEZ _) ?_ | refine qQZ (qFZ _ _) ?_ | refine qQZ (qGZ _ _) ?_ | refine qQZ (by (try with_reducible first | refine gV_F ?_ | refine gV_T ?_); first | exact q1Z _ _ | exact q2Z _ _ _ | exact q3Z _ | exact q4Z _ | exact q5Z _ _ _ | exact q6Z _ _ _ | exact q7Z _ _ _ | exact q8Z _ _ _ | exact q9Z _ _ _ | exact q0Z _ _ _ | exact qHZ (by omega) (by omega) | exact qIZ (by omega) (by omega) | exact qAZ _ | exact qBZ _ _ _ | exact qCZ _ _ _) ?_ | refine qQZ (gV_F rfl) ?_ | refine qQZ (gV_T rfl) ?_))
    refine ih (j + 1) K' (by omega) (by omega) ?_
    have e : (out[j]'(by omega) + row[j] * w % p) % p = (addRow p w out row)[j]'(by omega) := by simp only [addRow, List.getElem_zipWith]
    rw [e, mix_set hal (by omega)] at c2
    exact c2
theorem row_spec (hv : Sl (qXZ (eInt .u64)) H v m) (hp : Supp p) (hm : SqM p m) (hml : m.length ≤ 1000) (h0 : 0 ≤ x) (h1 : x < 18446744073709551616) : qVZ Tryd.prog 126 [.int .u64 p, v, .int .u64 x] H (Ret fun w H' => GI H H' w (rowL p x m)) := by
  have hpp := hp.pos
  apply call126
  unfold m126
  refine qQZ hv.len (GI.make (by omega) fun w H1 hw => ?_)
  unfold m126_2
  (repeat (first | refine qQZ (qDZ _) ?_ | refine qQZ (qEZ _) ?_ | refine qQZ (qFZ _ _) ?_ | refine qQZ (qGZ _ _) ?_ | refine qQZ (by (try with_reducible first | refine gV_F ?_ | refine gV_T ?_); first | exact hv.len | exact q1Z _ _ | exact q2Z _ _ _ | exact q3Z _ | exact q4Z _ | exact q5Z _ _ _ | exact q6Z _ _ _ | exact q7Z _ _ _ | exact q8Z _ _ _ | exact q9Z _ _ _ | exact q0Z _ _ _ | exact qHZ (by omega) (by omega) | exact qIZ (by omega) (by omega) | exact qAZ _ | exact qBZ _ _ _ | exact qCZ _ _ _) ?_ | refine qQZ (gV_F rfl) ?_ | refine qQZ (gV_T rfl) ?_))
  suffices key : ∀ (d i : Nat) (K : Heap), m.length - i = d → i ≤ m.length → GI H K w (rowAcc p x m i) → L126_3 (.int .u64 p) (.int .u64 x) w (.int .u64 (powP p x i)) v (.int .i64 m.length) (.int .i64 i) K _ _ from key _ 0 H1 rfl (by omega) hw
  intro d
  induction d with
  | zero =>
    intro i K hd hi h
    apply L126_3_round
    unfold m126_4
    (repeat (first | refine qQZ (qDZ _) ?_ | refine qQZ (qEZ _) ?_ | refine qQZ (qFZ _ _) ?_ | refine qQZ (qGZ _ _) ?_ | refine qQZ (by (try with_reducible first | refine gV_F ?_ | refine gV_T ?_); first | exact q1Z _ _ | exact q2Z _ _ _ | exact q3Z _ | exact q4Z _ | exact q5Z _ _ _ | exact q6Z _ _ _ | exact q7Z _ _ _ | exact q8Z _ _ _ | exact q9Z _ _ _ | exact q0Z _ _ _ | exact qHZ (by omega) (by omega) | exact qIZ (by omega) (by omega) | exact qAZ _ | exact qBZ _ _ _ | exact qCZ _ _ _) ?_ | refine qQZ (gV_F rfl) ?_ | refine qQZ (gV_T rfl) ?_))
    refine qJZ (fun hlt => absurd hlt (by omega)) (fun _ => ?_)
    unfold m126_1
    have e : i = m.length := by omega
    subst e
    exact h
  | succ d ih =>
    intro i K hd hi h
    apply L126_3_round
    unfold m126_4
    (repeat (first | refine qQZ (qDZ _) ?_ | refine qQZ (qEZ _) ?_ | refine qQZ (qFZ _ _) ?_ | refine qQZ (qGZ _ _) ?_ | refine qQZ (by (try with_reducible first | refine gV_F ?_ | refine gV_T ?_); first | exact q1Z _ _ | exact q2Z _ _ _ | exact q3Z _ | exact q4Z _ | exact q5Z _ _ _ | exact q6Z _ _ _ | exact q7Z _ _ _ | exact q8Z _ _ _ | exact q9Z _ _ _ | exact q0Z _ _ _ | exact qHZ (by omega) (by omega) | exact qIZ (by omega) (by omega) | exact qAZ _ | exact qBZ _ _ _ | exact qCZ _ _ _) ?_ | refine qQZ (gV_F rfl) ?_ | refine qQZ (gV_T rfl) ?_))
    refine qJZ (fun hlt => ?_) (fun hlt => absurd (by omega) hlt)
    unfold m126_6 m126_7
    have hil : i < m.length := by omega
    obtain ⟨pu, u, a1, a2, a3⟩ := hv.row hil (ti := ty52) rfl
    (repeat (first | refine qQZ (qDZ _) ?_ | refine qQZ (qEZ _) ?_ | refine qQZ (qFZ _ _) ?_ | refine qQZ (qGZ _ _) ?_ | refine qQZ (by (try with_reducible first | refine gV_F ?_ | refine gV_T ?_); first | exact a1 | exact qKZ h.le a2 | exact q1Z _ _ | exact q2Z _ _ _ | exact q3Z _ | exact q4Z _ | exact q5Z _ _ _ | exact q6Z _ _ _ | exact q7Z _ _ _ | exact q8Z _ _ _ | exact q9Z _ _ _ | exact q0Z _ _ _ | exact qHZ (by omega) (by omega) | exact qIZ (by omega) (by omega) | exact qAZ _ | exact qBZ _ _ _ | exact qCZ _ _ _) ?_ | refine qQZ (gV_F rfl) ?_ | refine qQZ (gV_T rfl) ?_))
    unfold m126_9
    refine qQZ a3.len ?_
    have hq := hm.sq _ (List.getElem_mem hil)
    have hw := powP_rng (x := x) (show 1 < p by omega) i
    refine row_in hp a3 (hm.rng _ (List.getElem_mem hil)) hw.1 hw.2 (rowAcc_rng (by omega) i) (by rw [rowAcc_len (x := x) hm i (by omega)]; omega) (fun K' h' => ?_) _ 0 K rfl (by omega) (by rw [List.take_zero, List.drop_zero, List.nil_append]; exact h)
    unfold m126_8
    refine oRC_val (fmul_spec K' hp hw.1 (by omega) h0 h1) ?_
    unfold m126_5
    (repeat (first | refine qQZ (qDZ _) ?_ | refine qQZ (qEZ _) ?_ | refine qQZ (qFZ _ _) ?_ | refine qQZ (qGZ _ _) ?_ | refine qQZ (by (try with_reducible first | refine gV_F ?_ | refine gV_T ?_); first | exact q1Z _ _ | exact q2Z _ _ _ | exact q3Z _ | exact q4Z _ | exact q5Z _ _ _ | exact q6Z _ _ _ | exact q7Z _ _ _ | exact q8Z _ _ _ | exact q9Z _ _ _ | exact q0Z _ _ _ | exact qHZ (by omega) (by omega) | exact qIZ (by omega) (by omega) | exact qAZ _ | exact qBZ _ _ _ | exact qCZ _ _ _) ?_ | refine qQZ (gV_F rfl) ?_ | refine qQZ (gV_T rfl) ?_))
    refine ih (i + 1) K' (by omega) (by omega) ?_
    have e : m.getD i [] = m[i] := by simp [hil]
    rw [rowAcc, e]
    exact h'
end
end

section
open Go

structure Ev where
  rd : Int
  fr : Int
  ws : List Int
def eEv : El Ev where
  sz := 3
  rel H e cs := ∃ w, cs = [.int .i64 e.rd, .int .i64 e.fr, w] ∧ Sl (eInt .u64) H w e.ws
  len := by rintro H x cs ⟨_, rfl, _⟩; rfl
  mono := by rintro H G x cs hl ⟨w, rfl, h⟩; exact ⟨w, rfl, h.mono hl⟩
def netCells (s : Scn) (cv dv tv tp : Value) (rd : Int) (vv : Value) : List Value := [.int .u64 s.P, .int .i64 s.N, .int .i64 s.T, cv, dv, tv, .int .i64 rd, vv, tp]
structure NetAt (R : Heap) (F : Nat → Prop) (tn : TypeId) (H : Heap) (jn : Nat) (s : Scn) (cv dv tv tp : Value) (rd : Int) (views : List (List Ev)) : Prop where
  le : Le R H
  ok : ScnOk R s cv dv tv
  off : ∀ b, F b → R b = none
  kn : ∀ b, F b → H b ≠ none
  jR : R jn = none
  jF : ¬ F jn
  body : ∃ vv rows, H jn = some (.cells (netCells s cv dv tv tp rd vv) 9 tn true) ∧ Nest F 3 90 49 H vv rows ∧ rows.length = views.length ∧ ∀ (j : Nat) cs es, rows[j]? = some cs → views[j]? = some es → Cs eEv R cs es
def noteV (rd : Int) (views : List (List Ev)) (who fr : Nat) (l : List Int) : List (List Ev) := if who ≠ fr ∧ 0 < l.length then views.set who (views.getD who [] ++ [⟨rd, (fr : Int) + 1, l⟩]) else views
theorem noteV_len (rd : Int) (views : List (List Ev)) (who fr : Nat) (l : List Int) : (noteV rd views who fr l).length = views.length := by
  unfold noteV
  split <;> simp
theorem copy_nil {H : Heap} {v : Value} {xs : List Int} {k : Value → Heap → Prop} (h : Sl (eInt .u64) H v xs) (hm : xs.length ≤ 1000000) (hk : ∀ v' H', Grown H H' 1 22 v' xs.length (xs.map (.int .u64)) → k v' H') : p4Z ty22 22 (.slice none 0 0) v H k := by
  obtain ⟨b, cap, rfl, e2, e3, e4⟩ := h.ints
  have h1 : ∀ v ∈ xs.map (Value.int .u64), v.oneCell' = true := fun v hv => by obtain ⟨x, _, rfl⟩ := List.mem_map.1 hv; rfl
  by_cases hp : 0 < xs.length
  · refine oAppend_own (te := ty22) (Own.nil 1 _ H) e4 h1 hp (by show 0 < 1; omega) (by show (0 + xs.length) * 8 ≤ _; omega) (by omega) (by simp [ty22]) fun j c hj hc hc2 => ?_
    have hj0 : H j = none := by
      rcases hj with e | e
      · cases e
      · exact e
    rw [Nat.zero_add] at hc ⊢
    rw [List.nil_append]
    refine hk _ _ ⟨Le.ins _ hj0, .inr ⟨j, c, rfl, hc, hc2, hins_self _ _ _, by simp⟩, fun i hi => by cases hi; exact hj0⟩
  · have e0 : xs = [] := List.eq_nil_of_length_eq_zero (by omega)
    subst e0
    refine ⟨[], [], rfl, e4, h1, by simp, by simp, fun _ => ?_, fun h => absurd h (by simp)⟩
    simp only [oRoom, if_true]
    exact hk _ _ (Grown.nil _ _ _)
theorem words_made {H H' : Heap} {v : Value} {xs : List Int} (h : Grown H H' 1 22 v xs.length (xs.map (.int .u64))) : ∃ N, New H H' N ∧ Sl (eInt .u64) N v xs :=
  Grown.made (e := eInt .u64) h fun K i x hx => one_get _ i (.int .u64 x) (by rw [List.getElem?_map, hx]; rfl)
section
variable {R R1 H H1 N : Heap} {F F1 : Nat → Prop} {tn : TypeId} {jn : Nat} {s : Scn} {cv dv tv tp : Value} {rd : Int} {views : List (List Ev)}
theorem NetAt.keep (h : NetAt R F tn H jn s cv dv tv tp rd views) (h1 : Le R R1) (h2 : Le R1 H1) (h3 : ∀ b c, F b ∨ b = jn → H b = some c → H1 b = some c) (h4 : ∀ b, F b → R1 b = none) (h5 : R1 jn = none) : NetAt R1 F tn H1 jn s cv dv tv tp rd views := by
  obtain ⟨vv, rows, b1, b2, b3, b4⟩ := h.body
  refine ⟨h2, h.ok.mono h1, h4, fun b hb => ?_, h5, h.jF, vv, rows, h3 _ _ (.inr rfl) b1, b2.keep fun b c hb hc => h3 b c (.inl hb) hc, b3, fun j cs es hc he => (b4 j cs es hc he).mono h1⟩
  have := h.kn b hb
  cases he : H b with
  | none => exact absurd he this
  | some c => rw [h3 b c (.inl hb) he]; simp
theorem NetAt.news (h : NetAt R F tn H jn s cv dv tv tp rd views) (hN : New H H1 N) : NetAt (hun R N) F tn H1 jn s cv dv tv tp rd views := by
  have hn : ∀ b, H b ≠ none → N b = none := fun b hb => by
    cases he : N b with
    | none => rfl
    | some c => exact absurd (hN.2.2 b (by rw [he]; simp)) hb
  obtain ⟨vv, rows, b1, _⟩ := h.body
  exact h.keep (qNZ _ _) (hun_le (h.le.trans hN.1) hN.2.1) (fun b c _ hc => hN.1 b c hc) (fun b hb => hun_none.2 ⟨h.off b hb, hn b (h.kn b hb)⟩) (hun_none.2 ⟨h.jR, hn jn (by rw [b1]; simp)⟩)
theorem NetAt.mono (h : NetAt R F tn H jn s cv dv tv tp rd views) (hl : Le H H1) : NetAt R F tn H1 jn s cv dv tv tp rd views :=
  h.keep (Le.refl _) (h.le.trans hl) (fun b c _ hc => hl b c hc) h.off h.jR
theorem NetAt.n (h : NetAt R F tn H jn s cv dv tv tp rd views) : qWZ ty3 (.pointer (some ⟨jn, 1, none⟩)) H = some (.int .i64 s.N) := by obtain ⟨vv, rows, b1, _⟩ := h.body; simp only [qWZ, b1]; rfl
theorem NetAt.r (h : NetAt R F tn H jn s cv dv tv tp rd views) : qWZ ty3 (.pointer (some ⟨jn, 6, none⟩)) H = some (.int .i64 rd) := by obtain ⟨vv, rows, b1, _⟩ := h.body; simp only [qWZ, b1]; rfl
theorem NetAt.scn (h : NetAt R F tn H jn s cv dv tv tp rd views) : qWZ ty29 (.pointer (some ⟨jn, 0, none⟩)) H = some (scnVal s cv dv tv) := by obtain ⟨vv, rows, b1, _⟩ := h.body; simp only [qWZ, b1]; rfl
theorem NetAt.put {who : Nat} {fr : Int} {w : Value} {l : List Int} (h : NetAt R F tn H jn s cv dv tv tp rd views) (ht1 : tn ≠ 90) (hw : who < views.length) (hl : (views.getD who []).length ≤ 1000000) (hx : Sl (eInt .u64) R w l) :
    ∃ vv pt u, qWZ ty95 (.pointer (some ⟨jn, 7, none⟩)) H = some vv ∧ p1Z 1 vv (.int .i64 who) = some pt ∧ qWZ ty49 pt H = some u ∧ ∀ k : Value → Heap → Prop,
      (∀ u' H1 H2 F', qWZ ty95 (.pointer (some ⟨jn, 7, none⟩)) H1 = some vv → p2Z ty49 pt u' H1 = some H2 → NetAt R F' tn H2 jn s cv dv tv tp rd (views.set who (views.getD who [] ++ [⟨rd, fr, l⟩])) → Wide F H F' → Off F H H2 → k u' H1) →
      oV (vBuild ty90 [((0, 1), .int .i64 rd), ((1, 1), .int .i64 fr), ((2, 1), w)]) fun x => p3Z ty90 90 1 [((0, 3), x)] H fun s H1 => p4Z ty90 90 u s H1 k := by
  obtain ⟨vv, rows, b1, b2, b3, b4⟩ := h.body
  obtain ⟨wb, wc, _, rfl, _⟩ := id hx
  have hwr : who < rows.length := by omega
  have hcs := b4 who rows[who] views[who] (List.getElem?_eq_getElem hwr) (List.getElem?_eq_getElem hw)
  have er : rows.getD who [] = rows[who] := by simp [hwr]
  have ev : views.getD who [] = views[who] := by simp [hw]
  have hvl : ∀ K : Heap, K jn = H jn → qWZ ty95 (.pointer (some ⟨jn, 7, none⟩)) K = some vv := fun K hK => by
    simp only [qWZ, hK, b1]
    rfl
  obtain ⟨pt, u, p1, p2, p3⟩ := b2.push (te := ty90) (x := .agg #[.int .i64 rd, .int .i64 fr, .slice wb l.length wc]) (by decide) hwr rfl rfl (fun c hc => by
    have hc' : c ∈ [.int .i64 rd, .int .i64 fr, .slice wb l.length wc] := hc
    simp only [List.mem_cons, List.not_mem_nil, or_false] at hc'
    rcases hc' with rfl | rfl | rfl <;> rfl) (by show 0 < 3; omega) (fun n hn => by
    have h3 : n * 3 = (rows.getD who []).length := hn
    rw [er, hcs.1] at h3
    have h4 : (views[who].length) * eEv.sz = views[who].length * 3 := rfl
    rw [h4] at h3
    rw [ev] at hl
    show (n + 1) * 40 ≤ _ ∧ _
    omega)
  refine ⟨vv, pt, u, hvl H rfl, p1, p2 ty49 rfl, fun k hk => ?_⟩
  refine qQZ (v := .agg #[.int .i64 rd, .int .i64 fr, .slice wb l.length wc]) rfl ?_
  refine p3 k fun u' H1 H2 F' q1 q2 q3 q4 q6 q7 q8 q9 => ?_
  have hj1 := q9 jn _ _ _ _ b1 ht1
  have hj2 := q8 jn _ b1 h.jF
  refine hk u' H1 H2 F' (hvl H1 (by rw [hj1, b1])) q2 ⟨q8.le h.le h.off, h.ok, q7.none h.off h.le, fun b hb => q6 b hb (h.kn b), h.jR, fun hb => ?_, vv, _, hj2, q4, by simpa using b3, fun j cs es hc he => ?_⟩ q7 q8
  · rcases q7.2 jn hb with e | e
    · exact h.jF e
    · rw [b1] at e; cases e
  · by_cases e : who = j
    · subst e
      rw [List.getElem?_set_self (by omega)] at hc he
      cases hc
      cases he
      rw [er, ev]
      exact hcs.snoc ⟨_, rfl, hx⟩
    · rw [List.getElem?_set_ne e] at hc he
      exact b4 j cs es hc he
end
def Noted (R : Heap) (F : Nat → Prop) (tn : TypeId) (H : Heap) (jn : Nat) (s : Scn) (cv dv tv tp : Value) (rd : Int) (views : List (List Ev)) : Ending → Heap → Prop := Ret fun _ H' => ∃ R' F', Le R R' ∧ (∀ i, R' i ≠ none → R i ≠ none ∨ H i = none) ∧ NetAt R' F' tn H' jn s cv dv tv tp rd views ∧ Wide F H F' ∧ Off F H H'
section
variable {R H : Heap} {F : Nat → Prop} {jn : Nat} {s : Scn} {cv dv tv tp xv : Value} {rd : Int} {views : List (List Ev)} {who fr : Nat} {l : List Int}
theorem note_spec (h : NetAt R F 98 H jn s cv dv tv tp rd views) (hw : who < views.length) (hl : (views.getD who []).length ≤ 1000000) (hx : Sl (eInt .u64) R xv l) (hll : l.length ≤ 1000000) (hfr : fr ≤ 1000) :
    qVZ Tryd.prog 79 [qTZ jn, .int .i64 who, .int .i64 fr, xv] H (Noted R F 98 H jn s cv dv tv tp rd (noteV rd views who fr l)) := by
  apply call79
  unfold m79
  have no : ¬ (who ≠ fr ∧ 0 < l.length) → Noted R F 98 H jn s cv dv tv tp rd (noteV rd views who fr l) (.returned (.tuple #[])) H := fun hn => by
    unfold noteV
    rw [if_neg hn]
    exact ⟨R, F, Le.refl _, fun i hi => .inl hi, h, Wide.refl _ _, Off.refl _ _⟩
  refine qQZ (q6Z _ _ _) ?_
  by_cases c1 : who = fr
  · rw [decide_eq_false (show ¬ (who : Int) ≠ fr from fun hn => hn (by omega))]
    exact qLZ (no fun hh => hh.1 c1)
  rw [decide_eq_true (show (who : Int) ≠ fr by omega)]
  refine qQZ (v := xv) rfl (qQZ (v := .int .i64 l.length) (hx.mono h.le).len (qQZ (v := .bool (decide (0 < (l.length : Int)))) (q9Z .i64 (l.length : Int) 0) (qQZ (v := .bool (decide (0 < (l.length : Int)))) rfl (qJZ (fun c2 => ?_) (fun c2 => no fun hh => absurd hh.2 (by omega))))))
  have wf : vInt .add (.int .i64 (fr : Int)) (.int .i64 1) = some (.int .i64 ((fr : Int) + 1)) := by rw [vInt_add, pBZ (by omega) (by omega)]
  obtain ⟨vv0, pt0, u0, a1, a2, a3, _⟩ := h.put (fr := (fr : Int) + 1) (by decide) hw hl hx
  refine qQZ (v := qTZ jn) rfl (qQZ (q1Z _ _) (qQZ a1 (qQZ (v := qTZ jn) rfl (qQZ (q1Z _ _) (qQZ a1 (qQZ a2 (qQZ a3 (qQZ (v := qTZ jn) rfl (qQZ (q1Z _ _) (qQZ h.r (qQZ wf ?_)))))))))))
  refine copy_nil (hx.mono h.le) hll fun w H1 hg => ?_
  obtain ⟨N, hN, hsl⟩ := words_made hg
  have h1 := h.news hN
  have hlN : Le N (hun R N) := hun_right fun k hk => none_le h.le (hN.2.2 k hk)
  obtain ⟨vv, pt, u, b1, b2, b3, b4⟩ := h1.put (fr := (fr : Int) + 1) (by decide) hw hl (hsl.mono hlN)
  have e1 := qKZ hN.1 a1
  rw [b1] at e1
  cases e1
  rw [b2] at a2
  cases a2
  have e3 := qKZ hN.1 a3
  rw [b3] at e3
  cases e3
  refine ⟨h1.r, b3, b1, b1, ?_⟩
  refine b4 _ fun u' H2 H3 F' c1' c2' c3' c4' c5' => ?_
  refine ⟨c1', qQZ b2 (p8Z c2' ?_)⟩
  have en : noteV rd views who fr l = views.set who (views.getD who [] ++ [⟨rd, (fr : Int) + 1, l⟩]) := by
    unfold noteV
    rw [if_pos ⟨c1, by omega⟩]
  rw [en]
  refine ⟨hun R N, F', qNZ _ _, fun i hi => ?_, c3', (Wide.refl F H).trans (Off.of_le hN.1) c4', (Off.of_le hN.1).trans (Wide.refl F H) c5'⟩
  by_cases e : R i = none
  · refine .inr (hN.2.2 i fun e2 => hi (hun_none.2 ⟨e, e2⟩))
  · exact .inl e
end
end

section
open Go

def inTo (said : List (List (List Int))) (n j : Nat) : List (List Int) := (List.range n).map fun i => (said.getD i []).getD j []
theorem inTo_len (said : List (List (List Int))) (n j : Nat) : (inTo said n j).length = n := by simp [inTo]
theorem inTo_succ (said : List (List (List Int))) (n j : Nat) : inTo said (n + 1) j = inTo said n j ++ [(said.getD n []).getD j []] := by simp [inTo, List.range_succ]
def recv (said : List (List (List Int))) (n : Nat) : List (List (List Int)) := (List.range n).map fun j => inTo said n j
theorem recv_len (said : List (List (List Int))) (n : Nat) : (recv said n).length = n := by simp [recv]
theorem recv_get (said : List (List (List Int))) {n j : Nat} (h : j < n) : (recv said n)[j]? = some (inTo said n j) := by simp [recv, h]
def rowV (rd : Int) (said : List (List (List Int))) (j : Nat) (views : List (List Ev)) : Nat → List (List Ev)
  | 0 => views
  | i + 1 => noteV rd (rowV rd said j views i) j i ((said.getD i []).getD j [])
def sendV (rd : Int) (said : List (List (List Int))) (n : Nat) (views : List (List Ev)) : Nat → List (List Ev)
  | 0 => views
  | j + 1 => rowV rd said j (sendV rd said n views j) n
def castRow (rd : Int) (said : List (List Int)) (i : Nat) (views : List (List Ev)) : Nat → List (List Ev)
  | 0 => views
  | j + 1 => noteV rd (castRow rd said i views j) j i (said.getD i [])
def castV (rd : Int) (said : List (List Int)) (n : Nat) (views : List (List Ev)) : Nat → List (List Ev)
  | 0 => views
  | i + 1 => castRow rd said i (castV rd said n views i) n
theorem rowV_len (rd : Int) (said : List (List (List Int))) (j : Nat) (views : List (List Ev)) : ∀ i, (rowV rd said j views i).length = views.length
  | 0 => rfl
  | i + 1 => by rw [rowV, noteV_len, rowV_len rd said j views i]
theorem sendV_len (rd : Int) (said : List (List (List Int))) (n : Nat) (views : List (List Ev)) : ∀ j, (sendV rd said n views j).length = views.length
  | 0 => rfl
  | j + 1 => by rw [sendV, rowV_len, sendV_len rd said n views j]
theorem castRow_len (rd : Int) (said : List (List Int)) (i : Nat) (views : List (List Ev)) : ∀ j, (castRow rd said i views j).length = views.length
  | 0 => rfl
  | j + 1 => by rw [castRow, noteV_len, castRow_len rd said i views j]
theorem castV_len (rd : Int) (said : List (List Int)) (n : Nat) (views : List (List Ev)) : ∀ i, (castV rd said n views i).length = views.length
  | 0 => rfl
  | i + 1 => by rw [castV, castRow_len, castV_len rd said n views i]
def Few (views : List (List Ev)) (B : Nat) : Prop := ∀ k, (views.getD k []).length ≤ B
theorem Few.note {views : List (List Ev)} {B : Nat} (h : Few views B) (rd : Int) (who fr : Nat) (l : List Int) : Few (noteV rd views who fr l) (B + 1) := by
  intro k
  unfold noteV
  split
  · by_cases hk : k < views.length
    · rw [getD_set _ _ _ _ _ hk]
      split
      · rw [List.length_append, List.length_singleton]
        have := h who
        omega
      · have := h k
        omega
    · rw [List.getD_eq_getElem?_getD, List.getElem?_eq_none (by simpa using hk)]
      simp
  · have := h k
    omega
theorem Few.mono {views : List (List Ev)} {B C : Nat} (h : Few views B) (hc : B ≤ C) : Few views C := fun k => Nat.le_trans (h k) hc
theorem Few.row {views : List (List Ev)} {B : Nat} (h : Few views B) (rd : Int) (said : List (List (List Int))) (j : Nat) : ∀ i, Few (rowV rd said j views i) (B + i)
  | 0 => h
  | i + 1 => (Few.row h rd said j i).note rd j i _
theorem Few.send {views : List (List Ev)} {B : Nat} (h : Few views B) (rd : Int) (said : List (List (List Int))) (n : Nat) : ∀ j, Few (sendV rd said n views j) (B + j * n)
  | 0 => h.mono (by omega)
  | j + 1 => ((Few.send h rd said n j).row rd said j n).mono (by rw [Nat.succ_mul]; omega)
theorem Few.castRow {views : List (List Ev)} {B : Nat} (h : Few views B) (rd : Int) (said : List (List Int)) (i : Nat) : ∀ j, Few (castRow rd said i views j) (B + j)
  | 0 => h
  | j + 1 => (Few.castRow h rd said i j).note rd j i _
theorem Few.cast {views : List (List Ev)} {B : Nat} (h : Few views B) (rd : Int) (said : List (List Int)) (n : Nat) : ∀ i, Few (castV rd said n views i) (B + i * n)
  | 0 => h.mono (by omega)
  | i + 1 => ((Few.cast h rd said n i).castRow rd said i n).mono (by rw [Nat.succ_mul]; omega)
open Classical in
noncomputable def hres (H : Heap) (F : Nat → Prop) : Heap := fun b => if F b then H b else none
theorem hres_in {H : Heap} {F : Nat → Prop} {b : Nat} (h : F b) : hres H F b = H b := by unfold hres; rw [if_pos h]
theorem hres_out {H : Heap} {F : Nat → Prop} {b : Nat} (h : ¬ F b) : hres H F b = none := by unfold hres; rw [if_neg h]
theorem hres_le (H : Heap) (F : Nat → Prop) : Le (hres H F) H := fun b c hc => by
  by_cases h : F b
  · rwa [hres_in h] at hc
  · rw [hres_out h] at hc; cases hc
section
variable {α : Type} {e : El α} {F : Nat → Prop} {ei eo : TypeId} {R H K : Heap} {v : Value} {rows : List (List Value)} {xss : List (List α)}
theorem Nest.sl (h : Nest F e.sz ei eo H v rows) (h0 : 0 < e.sz) (hlen : rows.length = xss.length) (hr : ∀ (j : Nat) cs xs, rows[j]? = some cs → xss[j]? = some xs → Cs e R cs xs) (hl : Le R K) (hK : ∀ b c, F b → H b = some c → K b = some c) : Sl (qXZ e) K v xss := by
  have hk := h.keep hK
  obtain ⟨us, h1, h2, h3, h4, h5, h6⟩ := hk
  rw [hlen] at h2
  refine h2.sl (e := qXZ e) fun i x hi => ?_
  obtain ⟨hil, rfl⟩ := List.getElem?_eq_some_iff.1 hi
  have hiu : i < us.length := by omega
  have hir : i < rows.length := by omega
  obtain ⟨n, ho⟩ := h3 i us[i] rows[i] (List.getElem?_eq_getElem hiu) (List.getElem?_eq_getElem hir)
  exact ⟨us[i], one_get _ i us[i] (List.getElem?_eq_getElem hiu), (hr i _ _ (List.getElem?_eq_getElem hir) hi).sl hl ho h0⟩
end
section
variable {R R1 H H1 N : Heap} {F F1 : Nat → Prop} {tn : TypeId} {jn : Nat} {s : Scn} {cv dv tv tp : Value} {rd : Int} {views : List (List Ev)}
theorem NetAt.tick (h : NetAt R F tn H jn s cv dv tv tp rd views) (r : Int) : ∃ H', p2Z ty3 (.pointer (some ⟨jn, 6, none⟩)) (.int .i64 r) H = some H' ∧ NetAt R F tn H' jn s cv dv tv tp r views ∧ ∀ b, b ≠ jn → H' b = H b := by
  obtain ⟨vv, rows, b1, b2, b3, b4⟩ := h.body
  have st : p2Z ty3 (.pointer (some ⟨jn, 6, none⟩)) (.int .i64 r) H = some (hins H jn (.cells (netCells s cv dv tv tp r vv) 9 tn true)) := by
    simp only [p2Z, b1]
    rfl
  have oth : ∀ b, b ≠ jn → hins H jn (.cells (netCells s cv dv tv tp r vv) 9 tn true) b = H b := fun b hb => qOZ _ _ hb
  have hF : ∀ b, F b → b ≠ jn := fun b hb e => h.jF (e ▸ hb)
  refine ⟨_, st, ⟨fun b c hc => ?_, h.ok, h.off, fun b hb => ?_, h.jR, h.jF, vv, rows, hins_self _ _ _, b2.keep fun b c hb hc => ?_, b3, b4⟩, oth⟩
  · rw [oth b (fun e => by subst e; rw [h.jR] at hc; cases hc)]
    exact h.le b c hc
  · rw [oth b (hF b hb)]
    exact h.kn b hb
  · rw [oth b (hF b hb)]
    exact hc
def Sent {α : Type} (e : El α) (R : Heap) (F : Nat → Prop) (tn : TypeId) (H : Heap) (jn : Nat) (s : Scn) (cv dv tv tp : Value) (rd : Int) (views : List (List Ev)) (got : List α) : Ending → Heap → Prop := Ret fun v H' => ∃ R' F', Le R R' ∧ (∀ i, R' i ≠ none → R i ≠ none ∨ H i = none) ∧ NetAt R' F' tn H' jn s cv dv tv tp rd views ∧ Sl e R' v got ∧ Wide F H F' ∧ Off (fun b => F b ∨ b = jn) H H'
structure Beside (R H : Heap) (F : Nat → Prop) (jn : Nat) (Fi : Nat → Prop) : Prop where
  off : ∀ b, Fi b → R b = none
  kn : ∀ b, Fi b → H b ≠ none
  dj : ∀ b, Fi b → ¬ F b ∧ b ≠ jn
theorem Beside.noted {Fi : Nat → Prop} (h : Beside R H F jn Fi) (hf : ∀ i, R1 i ≠ none → R i ≠ none ∨ H i = none) (hw : Wide F H F1) (ho : Off F H H1) : Beside R1 H1 F1 jn Fi := by
  refine ⟨fun b hb => ?_, fun b hb => ?_, fun b hb => ⟨fun hF => ?_, (h.dj b hb).2⟩⟩
  · cases he : R1 b with
    | none => rfl
    | some c =>
      rcases hf b (by rw [he]; simp) with e | e
      · exact absurd (h.off b hb) e
      · exact absurd e (h.kn b hb)
  · cases he : H b with
    | none => exact absurd he (h.kn b hb)
    | some c => rw [ho b c he (h.dj b hb).1]; simp
  · rcases hw.2 b hF with e | e
    · exact (h.dj b hb).1 e
    · exact h.kn b hb e
theorem Beside.news {Fi : Nat → Prop} (h : Beside R H F jn Fi) (hN : New H H1 N) : Beside (hun R N) H1 F jn Fi := by
  refine ⟨fun b hb => hun_none.2 ⟨h.off b hb, ?_⟩, fun b hb => ?_, h.dj⟩
  · cases he : N b with
    | none => rfl
    | some c => exact absurd (hN.2.2 b (by rw [he]; simp)) (h.kn b hb)
  · cases he : H b with
    | none => exact absurd he (h.kn b hb)
    | some c => rw [hN.1 b c he]; simp
theorem NetAt.beside {Fi Fi' : Nat → Prop} (h : NetAt R F tn H jn s cv dv tv tp rd views) (hb : Beside R H F jn Fi) (ho : Off Fi H H1) (hw : Wide Fi H Fi') (hk : ∀ b, Fi' b → (Fi b → H b ≠ none) → H1 b ≠ none) : NetAt R F tn H1 jn s cv dv tv tp rd views ∧ Beside R H1 F jn Fi' := by
  have hl : Le R H1 := ho.le h.le hb.off
  obtain ⟨vv, rows, b1, _⟩ := h.body
  refine ⟨h.keep (Le.refl _) hl (fun b c hbb hc => ho b c hc fun hf => ?_) h.off h.jR, ⟨hw.none hb.off h.le, fun b hf => hk b hf (hb.kn b), fun b hf => ?_⟩⟩
  · rcases hbb with e | e
    · exact (hb.dj b hf).1 e
    · exact (hb.dj b hf).2 e
  · rcases hw.2 b hf with e | e
    · exact hb.dj b e
    · exact ⟨fun hF => h.kn b hF e, fun e2 => by subst e2; rw [b1] at e; cases e⟩
end
end

section
open Go

structure SendSt (R0 : Heap) (F0 : Nat → Prop) (H0 : Heap) (tn : TypeId) (jn : Nat) (s : Scn) (cv dv tv tp : Value) (rd : Int) (iv sv : Value) (said : List (List (List Int))) (n : Nat) (R : Heap) (F Fi : Nat → Prop) (H : Heap) (views : List (List Ev)) (rows : List (List Value)) (j i : Nat) : Prop where
  net : NetAt R F tn H jn s cv dv tv tp rd views
  nest : Nest Fi 1 52 27 H iv rows
  bes : Beside R H F jn Fi
  sl : Sl (qXZ (qXZ (eInt .u64))) R sv said
  rl : rows.length = n
  rw : ∀ (k : Nat) cs, rows[k]? = some cs → Cs (qXZ (eInt .u64)) R cs (inTo said (if k < j then n else if k = j then i else 0) k)
  le : Le R0 R
  fresh : ∀ b, R b ≠ none → R0 b ≠ none ∨ H0 b = none
  wide : Wide F0 H0 F
  off : Off (fun b => F0 b ∨ b = jn) H0 H
  new : ∀ b, Fi b → H0 b = none
section
variable {R0 : Heap} {F0 : Nat → Prop} {H0 : Heap} {tn : TypeId} {jn : Nat} {s : Scn} {cv dv tv tp : Value} {rd : Int} {iv sv : Value} {said : List (List (List Int))} {n : Nat} {R : Heap} {F Fi : Nat → Prop} {H H1 N : Heap} {views views' : List (List Ev)} {rows : List (List Value)} {j i : Nat}
theorem SendSt.known (h : SendSt R0 F0 H0 tn jn s cv dv tv tp rd iv sv said n R F Fi H views rows j i) : ∀ b, H0 b ≠ none → H b ≠ none := fun b hb => by
  by_cases e : F0 b ∨ b = jn
  · rcases e with e | rfl
    · exact h.net.kn b (h.wide.1 b e)
    · obtain ⟨vv, rows, b1, _⟩ := h.net.body
      rw [b1]; simp
  · cases he : H0 b with
    | none => exact absurd he hb
    | some c => rw [h.off b c he e]; simp
theorem SendSt.news (h : SendSt R0 F0 H0 tn jn s cv dv tv tp rd iv sv said n R F Fi H views rows j i) (hN : New H H1 N) : SendSt R0 F0 H0 tn jn s cv dv tv tp rd iv sv said n (hun R N) F Fi H1 views rows j i :=
  ⟨h.net.news hN, h.nest.mono hN.1, h.bes.news hN, h.sl.mono (qNZ _ _), h.rl, fun k cs hk => (h.rw k cs hk).mono (qNZ _ _), h.le.trans (qNZ _ _), fun b hb => by
    by_cases e : R b = none
    · have e2 : N b ≠ none := fun e2 => hb (hun_none.2 ⟨e, e2⟩)
      refine .inr ?_
      cases he : H0 b with
      | none => rfl
      | some c => exact absurd (hN.2.2 b e2) (h.known b (by rw [he]; simp))
    · exact h.fresh b e, h.wide, fun b c hb hn => hN.1 b c (h.off b c hb hn), h.new⟩
theorem SendSt.push {w : Value} (h : SendSt R0 F0 H0 tn jn s cv dv tv tp rd iv sv said n R F Fi H views rows j i) (hj : j < n) (hi : i ≤ 1000) (hx : Sl (eInt .u64) R w ((said.getD i []).getD j [])) :
    ∃ pt u, p1Z 1 iv (.int .i64 j) = some pt ∧ qWZ ty27 pt H = some u ∧ ∀ k : Value → Heap → Prop,
      (∀ u' H1 H2 Fi' rows', p2Z ty27 pt u' H1 = some H2 → SendSt R0 F0 H0 tn jn s cv dv tv tp rd iv sv said n R F Fi' H2 views rows' j (i + 1) → k u' H1) →
      p3Z ty52 52 1 [((0, 1), w)] H fun s H1 => p4Z ty52 52 u s H1 k := by
  obtain ⟨wb, wc, _, rfl, _⟩ := id hx
  have hjr : j < rows.length := by rw [h.rl]; exact hj
  have hcs := h.rw j rows[j] (List.getElem?_eq_getElem hjr)
  rw [if_neg (by omega), if_pos rfl] at hcs
  have er : rows.getD j [] = rows[j] := by simp [hjr]
  obtain ⟨pt, u, p1, p2, p3⟩ := h.nest.push (te := ty52) (x := .slice wb ((said.getD i []).getD j []).length wc) (by decide) hjr rfl rfl (fun c hc => by
    have hc' : c ∈ [.slice wb ((said.getD i []).getD j []).length wc] := hc
    rw [List.mem_singleton.1 hc']
    rfl) (by show 0 < 1; omega) (fun m hm => by
    have h3 : m * 1 = (rows.getD j []).length := hm
    rw [er, hcs.1, inTo_len] at h3
    have h4 : (qXZ (eInt .u64)).sz = 1 := rfl
    rw [h4] at h3
    show (m + 1) * 24 ≤ _ ∧ _
    omega)
  refine ⟨pt, u, p1, p2 ty27 rfl, fun k hk => p3 k fun u' H1 H2 F' q1 q2 q3 q4 q6 q7 q8 q9 => ?_⟩
  obtain ⟨n1, n2⟩ := h.net.beside h.bes q8 q7 q6
  refine hk u' H1 H2 F' _ q2 ⟨n1, q4, n2, h.sl, by simpa using h.rl, fun k' cs hk' => ?_, h.le, h.fresh, h.wide, fun b c hb hn => ?_, fun b hb => ?_⟩
  · by_cases e : j = k'
    · subst e
      rw [List.getElem?_set_self (by omega)] at hk'
      cases hk'
      rw [if_neg (by omega), if_pos rfl, er, inTo_succ]
      exact hcs.snoc ⟨_, rfl, hx⟩
    · rw [List.getElem?_set_ne e] at hk'
      have := h.rw k' cs hk'
      have e' : ¬ k' = j := fun e2 => e e2.symm
      simp only [e', if_false] at this ⊢
      exact this
  · have hb1 := h.off b c hb hn
    exact q8 b c hb1 fun hf => by rw [h.new b hf] at hb; cases hb
  · rcases q7.2 b hb with e | e
    · exact h.new b e
    · cases he : H0 b with
      | none => rfl
      | some c => exact absurd e (h.known b (by rw [he]; simp))
theorem SendSt.noted (h : SendSt R0 F0 H0 tn jn s cv dv tv tp rd iv sv said n R F Fi H views rows j i) {R' : Heap} {F' : Nat → Prop} (h1 : Le R R') (h2 : ∀ i, R' i ≠ none → R i ≠ none ∨ H i = none) (h3 : NetAt R' F' tn H1 jn s cv dv tv tp rd views') (h4 : Wide F H F') (h5 : Off F H H1) :
    SendSt R0 F0 H0 tn jn s cv dv tv tp rd iv sv said n R' F' Fi H1 views' rows j i :=
  ⟨h3, h.nest.keep fun b c hb hc => h5 b c hc (h.bes.dj b hb).1, h.bes.noted h2 h4 h5, h.sl.mono h1, h.rl, fun k cs hk => (h.rw k cs hk).mono h1, h.le.trans h1, fun b hb => by
    rcases h2 b hb with e | e
    · exact h.fresh b e
    · refine .inr ?_
      cases he : H0 b with
      | none => rfl
      | some c => exact absurd e (h.known b (by rw [he]; simp)), ⟨fun b hb => h4.1 b (h.wide.1 b hb), fun b hb => by
    rcases h4.2 b hb with e | e
    · exact h.wide.2 b e
    · refine .inr ?_
      cases he : H0 b with
      | none => rfl
      | some c => exact absurd e (h.known b (by rw [he]; simp))⟩, fun b c hb hn => by
    refine h5 b c (h.off b c hb hn) fun hF => ?_
    rcases h.wide.2 b hF with e | e
    · exact hn (.inl e)
    · rw [hb] at e; exact (nomatch e), h.new⟩
theorem SendSt.next (h : SendSt R0 F0 H0 tn jn s cv dv tv tp rd iv sv said n R F Fi H views rows j n) : SendSt R0 F0 H0 tn jn s cv dv tv tp rd iv sv said n R F Fi H views rows (j + 1) 0 :=
  ⟨h.net, h.nest, h.bes, h.sl, h.rl, fun k cs hk => by
    have := h.rw k cs hk
    by_cases e1 : k < j
    · rw [if_pos e1] at this
      rw [if_pos (by omega)]
      exact this
    · by_cases e2 : k = j
      · rw [if_neg e1, if_pos e2] at this
        rw [if_pos (by omega)]
        exact this
      · rw [if_neg e1, if_neg e2] at this
        rw [if_neg (by omega)]
        split <;> exact this, h.le, h.fresh, h.wide, h.off, h.new⟩
theorem SendSt.done (h : SendSt R0 F0 H0 tn jn s cv dv tv tp rd iv sv said n R F Fi H views rows n 0) (r : Int) : ∃ H', p2Z ty3 (.pointer (some ⟨jn, 6, none⟩)) (.int .i64 r) H = some H' ∧ Sent (qXZ (qXZ (eInt .u64))) R0 F0 tn H0 jn s cv dv tv tp r views (recv said n) (.returned iv) H' := by
  obtain ⟨H', t1, t2, t3⟩ := h.net.tick r
  have hFi : ∀ b, Fi b → H' b = H b := fun b hb => t3 b (h.bes.dj b hb).2
  have hlR : Le (hun R (hres H' Fi)) H' := hun_le t2.le (hres_le _ _)
  refine ⟨H', t1, hun R (hres H' Fi), F, h.le.trans (qNZ _ _), fun b hb => ?_, ?_, ?_, h.wide, fun b c hb hn => ?_⟩
  · by_cases e : R b = none
    · have e2 : hres H' Fi b ≠ none := fun e2 => hb (hun_none.2 ⟨e, e2⟩)
      by_cases e3 : Fi b
      · exact .inr (h.new b e3)
      · exact absurd (hres_out e3) e2
    · exact h.fresh b e
  · exact t2.keep (qNZ _ _) hlR (fun b c _ hc => hc) (fun b hb => hun_none.2 ⟨t2.off b hb, hres_out fun e => (h.bes.dj b e).1 hb⟩) (hun_none.2 ⟨t2.jR, hres_out fun e => (h.bes.dj jn e).2 rfl⟩)
  · refine Nest.sl (e := qXZ (eInt .u64)) (R := R) (H := H') (h.nest.keep fun b c hb hc => by rw [hFi b hb]; exact hc) (by decide) (by rw [h.rl, recv_len]) (fun k cs xs hk hx => ?_) (qNZ _ _) (fun b c hb hc => ?_)
    · have hkn : k < n := by
        have := (List.getElem?_eq_some_iff.1 hk).1
        rw [h.rl] at this
        exact this
      rw [recv_get said hkn] at hx
      cases hx
      have := h.rw k cs hk
      rw [if_pos hkn] at this
      exact this
    · have hR : R b = none := h.bes.off b hb
      have : hres H' Fi b = some c := by rw [hres_in hb]; exact hc
      simp [hun, hR, this]
  · rw [t3 b fun e => hn (.inr e)]
    exact h.off b c hb hn
end
section
variable {R0 : Heap} {F0 : Nat → Prop} {H0 : Heap} {jn : Nat} {s : Scn} {cv dv tv tp : Value} {rd : Int} {iv sv ov : Value} {said out : List (List (List Int))} {n : Nat}
theorem send_row {j B : Nat} {vs0 : List (List Ev)} (hn13 : n ≤ 1000) (hj : j < n) (hsl : said.length = n) (hsr : ∀ i, i < n → (said.getD i []).length = n) (hsw : ∀ i j, ((said.getD i []).getD j []).length ≤ 1000000) (hvl : vs0.length = n) (hB : Few vs0 B) (hB2 : B + n ≤ 1000000)
    {kn : Value → Value → Value → Value → Value → Value → Heap → Prop} {kx1 : Value → Value → Value → Value → Value → Value → Heap → Prop} {kx0 : Value → Value → Heap → Prop} {Q : Ending → Heap → Prop}
    (hk : ∀ R F Fi H rows, SendSt R0 F0 H0 98 jn s cv dv tv tp rd iv sv said n R F Fi H (rowV rd said j vs0 n) rows j n → kn (qTZ jn) (.func (.func 79) #[qTZ jn] #[]) sv iv (.int .i64 n) (.int .i64 j) H) :
    ∀ (d i : Nat) (R : Heap) (F Fi : Nat → Prop) (H : Heap) (rows : List (List Value)), n - i = d → i ≤ n → SendSt R0 F0 H0 98 jn s cv dv tv tp rd iv sv said n R F Fi H (rowV rd said j vs0 i) rows j i →
      L47_8 (qTZ jn) (.func (.func 79) #[qTZ jn] #[]) sv iv (.int .i64 j) (.int .i64 n) (.int .i64 j) (.int .i64 n) (.int .i64 i) H kn kx1 kx0 Q := by
  intro d
  induction d with
  | zero =>
    intro i R F Fi H rows hd hi h
    apply L47_8_round
    unfold m47_9
    refine qQZ (q7Z _ _ _) (qJZ (fun hlt => absurd hlt (by omega)) (fun _ => ?_))
    have : i = n := by omega
    subst this
    exact hk R F Fi H rows h
  | succ d ih =>
    intro i R F Fi H rows hd hi h
    apply L47_8_round
    unfold m47_9
    refine qQZ (q7Z _ _ _) (qJZ (fun hlt => ?_) (fun hlt => absurd (by omega) hlt))
    have hin : i < n := by omega
    obtain ⟨p1, u1, a1, a2, a3⟩ := (h.sl.mono h.net.le).slice .i64 (i := (i : Int)) (by omega) (by omega) (ti := ty27) rfl
    rw [Int.toNat_natCast] at a3
    have hsi := hsr i hin
    obtain ⟨p2, u2, b1, b2, b3⟩ := a3.slice .i64 (i := (j : Int)) (by omega) (by omega) (ti := ty52) rfl
    rw [Int.toNat_natCast] at b3
    have hw := hsw i j
    refine qQZ a1 (qQZ a2 (qQZ b1 (qQZ b2 (copy_nil b3 hw fun w H1 hg => ?_))))
    obtain ⟨N, hN, hNs⟩ := words_made hg
    have h1 := h.news hN
    have hlN : Le N (hun R N) := hun_right fun k hk => none_le h.net.le (hN.2.2 k hk)
    have hws := hNs.mono hlN
    obtain ⟨pt, u, c1, c2, c3⟩ := h1.push hj (by omega) hws
    refine qQZ c1 (qQZ c2 (c3 _ fun u' H2 H3 Fi' rows' st h3 => qQZ c1 (p8Z st ?_)))
    have hlv := rowV_len rd said j vs0 i
    have hfw := hB.row rd said j i
    refine oCl_ret rfl (note_spec (who := j) (fr := i) h3.net (by omega) (by have := hfw j; omega) hws hw (by omega)) fun v H4 hv => ?_
    obtain ⟨R4, F4, q1, q2, q3, q4, q5⟩ := hv
    have h4 := h3.noted q1 q2 q3 q4 q5
    refine qQZ (vInt_add _ _ _) ?_
    rw [pBZ (by omega) (by omega)]
    exact ih (i + 1) R4 F4 Fi' H4 rows' (by omega) (by omega) h4
theorem send_rows {B : Nat} {vs0 : List (List Ev)} (hn : (n : Int) = s.N) (hn13 : n ≤ 1000) (hsl : said.length = n) (hsr : ∀ i, i < n → (said.getD i []).length = n) (hsw : ∀ i j, ((said.getD i []).getD j []).length ≤ 1000000) (hvl : vs0.length = n) (hB : Few vs0 B) (hB2 : B + (n + 1) * n ≤ 1000000)
    {kn : Value → Value → Heap → Prop} {Q : Ending → Heap → Prop}
    (hk : ∀ R F Fi H rows, SendSt R0 F0 H0 98 jn s cv dv tv tp rd iv sv said n R F Fi H (sendV rd said n vs0 n) rows n 0 → kn (qTZ jn) iv H) :
    ∀ (d j : Nat) (R : Heap) (F Fi : Nat → Prop) (H : Heap) (rows : List (List Value)), n - j = d → j ≤ n → SendSt R0 F0 H0 98 jn s cv dv tv tp rd iv sv said n R F Fi H (sendV rd said n vs0 j) rows j 0 →
      L47_3 (qTZ jn) (.func (.func 79) #[qTZ jn] #[]) sv iv (.int .i64 n) (.int .i64 j) H kn Q := by
  intro d
  induction d with
  | zero =>
    intro j R F Fi H rows hd hj h
    apply L47_3_round
    unfold m47_4
    refine qQZ (q7Z _ _ _) (qJZ (fun hlt => absurd hlt (by omega)) (fun _ => ?_))
    have : j = n := by omega
    subst this
    exact hk R F Fi H rows h
  | succ d ih =>
    intro j R F Fi H rows hd hj h
    apply L47_3_round
    unfold m47_4
    refine qQZ (q7Z _ _ _) (qJZ (fun hlt => ?_) (fun hlt => absurd (by omega) hlt))
    have hjn : j < n := by omega
    unfold m47_6 m47_7
    have hnl := h.net.n
    rw [← hn] at hnl
    refine qQZ (v := qTZ jn) rfl (qQZ (q1Z _ _) (qQZ (v := .pointer (some ⟨jn, 0, none⟩)) rfl (qQZ (v := .pointer (some ⟨jn, 1, none⟩)) rfl (qQZ hnl ?_))))
    have hmul : (j + 1) * n ≤ (n + 1) * n := Nat.mul_le_mul_right n (by omega)
    rw [Nat.succ_mul] at hmul
    refine send_row hn13 hjn hsl hsr hsw (by rw [sendV_len]; exact hvl) (hB.send rd said n j) (by omega) (fun R F Fi H rows h2 => ?_) _ 0 R F Fi H rows rfl (by omega) h
    unfold m47_5
    refine qQZ (vInt_add _ _ _) ?_
    rw [pBZ (by omega) (by omega)]
    exact ih (j + 1) R F Fi H rows (by omega) (by omega) h2.next
theorem MsgsM.row {p n : Int} {mat : List (List (List Int))} (h : MsgsM p n mat) (i : Nat) (hi : i < mat.length) : ((mat.getD i []).length : Int) = n := (h.get hi).len
theorem MsgsM.word {p n : Int} {mat : List (List (List Int))} (h : MsgsM p n mat) (i j : Nat) : ((mat.getD i []).getD j []).length ≤ 1000000 := by
  by_cases hi : i < mat.length
  · have := ((h.get hi).get j).2
    omega
  · rw [List.getD_eq_getElem?_getD (l := mat), List.getElem?_eq_none (by omega)]
    simp
end
section
variable {R R1 H H1 : Heap} {F : Nat → Prop} {tn : TypeId} {jn : Nat} {s : Scn} {cv dv tv tp ov : Value} {rd : Int} {views : List (List Ev)}
theorem NetAt.framed (h : NetAt R F tn H jn s cv dv tv tp rd views) (hR : Le R R1) (hl : Le R1 H1) (h3 : ∀ i c, H i = some c → R i = none → H1 i = some c) (h4 : ∀ i, R1 i ≠ none → R i ≠ none ∨ H i = none) : NetAt R1 F tn H1 jn s cv dv tv tp rd views ∧ Le H H1 := by
  have hle : Le H H1 := fun b c hc => by
    cases he : R b with
    | none => exact h3 b c hc he
    | some c' =>
      have e1 := h.le b c' he
      rw [hc] at e1
      cases e1
      exact hl b _ (hR b _ he)
  have hn : ∀ b, R b = none → H b ≠ none → R1 b = none := fun b h1 h2 => by
    cases he : R1 b with
    | none => rfl
    | some c =>
      rcases h4 b (by rw [he]; simp) with e | e
      · exact absurd h1 e
      · exact absurd e h2
  obtain ⟨vv, rows, b1, _⟩ := id h.body
  exact ⟨h.keep hR hl (fun b c _ hc => hle b c hc) (fun b hb => hn b (h.off b hb) (h.kn b hb)) (hn jn h.jR (by rw [b1]; simp)), hle⟩
theorem SendSt.init {iv sv : Value} {said : List (List (List Int))} {n : Nat} {H2 : Heap} (h : NetAt R F tn H jn s cv dv tv tp rd views) (h1 : NetAt R1 F tn H1 jn s cv dv tv tp rd views) (hle : Le H H1) (hR : Le R R1) (h4 : ∀ i, R1 i ≠ none → R i ≠ none ∨ H i = none) (hsl : Sl (qXZ (qXZ (eInt .u64))) R1 sv said) (hg : Grown H1 H2 1 27 iv n (List.replicate n (.slice none 0 0))) :
    SendSt R F H tn jn s cv dv tv tp rd iv sv said n R1 F (fun b => blkOf iv = some b) H2 views (List.replicate n []) 0 0 := by
  refine ⟨h1.mono hg.1, Nest.new hg, ⟨fun b hb => none_le h1.le (hg.2.2 b hb), fun b hb => ?_, fun b hb => ⟨fun hF => h1.kn b hF (hg.2.2 b hb), fun e => ?_⟩⟩, hsl, by simp, fun k cs hk => ?_, hR, h4, Wide.refl _ _, Off.of_le (hle.trans hg.1), fun b hb => none_le hle (hg.2.2 b hb)⟩
  · obtain ⟨_, _, e⟩ := hg.2.1.at_ hb
    rw [e]; simp
  · subst e
    obtain ⟨vv, rows, b1, _⟩ := h1.body
    rw [hg.2.2 b hb] at b1
    cases b1
  · have hlt : k < n := by simpa using (List.getElem?_eq_some_iff.1 hk).1
    rw [List.getElem?_replicate, if_pos hlt] at hk
    cases hk
    rw [if_neg (by omega)]
    have : (if k = 0 then 0 else 0 : Nat) = 0 := by split <;> rfl
    rw [this]
    exact Cs.nil _ _
theorem send_spec {out : List (List (List Int))} {B : Nat} (h : NetAt R F 98 H jn s cv dv tv tp rd views) (hV : ScnV s) (ho : Sl (qXZ (qXZ (eInt .u64))) R ov out) (hm : MsgsM s.P s.N out) (hvl : (views.length : Int) = s.N) (hB : Few views B) (hB2 : B ≤ 900000) (hr0 : 0 ≤ rd) (hr1 : rd ≤ 1000000) :
    qVZ Tryd.prog 47 [qTZ jn, ov] H (Sent (qXZ (qXZ (eInt .u64))) R F 98 H jn s cv dv tv tp (rd + 1) (sendV rd (applyM s rd out s.devs.length) views.length views views.length) (recv (applyM s rd out s.devs.length) views.length)) := by
  obtain ⟨hp, hn4, hn13, _⟩ := hV.par
  have hds : ∀ d ∈ s.devs, DevOk s.N d := fun d hd => (hV.devs d hd).2
  have hpp := hp.pos
  have hsm := applyM_msgs (rd := rd) (show 0 < s.P by omega) hds hm s.devs.length (Nat.le_refl _)
  have hsl := hsm.len
  apply call47
  unfold m47
  refine qQZ (v := qTZ jn) rfl (qQZ (q1Z _ _) (qQZ h.scn (qQZ (v := qTZ jn) rfl (qQZ (q1Z _ _) (qQZ h.r ?_)))))
  refine oRC_frame (applyM_spec hp h.ok ho hm hds (by omega)) h.le fun sv R1 H1 hq hl1 h3 h4 => ?_
  obtain ⟨hR, hsv⟩ := hq
  obtain ⟨h1, hle⟩ := h.framed hR hl1 h3 h4
  have hnl := h1.n
  rw [← hvl] at hnl
  refine qQZ (v := qTZ jn) rfl (qQZ (q1Z _ _) (qQZ (v := .pointer (some ⟨jn, 0, none⟩)) rfl (qQZ (v := .pointer (some ⟨jn, 1, none⟩)) rfl (qQZ hnl ?_))))
  refine oMake_own (te := ty27) rfl (by show 24 * _ ≤ _; omega) (by omega) fun iv H2 hg => ?_
  rw [zerosL_one rfl] at hg
  have hs := SendSt.init h h1 hle hR h4 hsv hg
  generalize applyM s rd out s.devs.length = said at hsm hsl hsv hs ⊢
  unfold m47_2
  refine qQZ hg.2.1.len ?_
  have hmul : (views.length + 1) * views.length ≤ 14 * 13 := Nat.mul_le_mul (by omega) (by omega)
  refine send_rows hvl (by omega) (by omega) (fun i hi => by have := hsm.row i (by omega); omega) hsm.word rfl hB (by omega) (fun R' F' Fi' H' rows' hd => ?_) _ 0 R1 F _ H2 _ rfl (by omega) hs
  unfold m47_1
  obtain ⟨K, t1, t2⟩ := hd.done (rd + 1)
  refine qQZ (v := qTZ jn) rfl (qQZ (q1Z _ _) (qQZ hd.net.r (qQZ (vInt_add _ _ _) ?_)))
  rw [pBZ (by omega) (by omega)]
  exact qQZ (v := qTZ jn) rfl (qQZ (q1Z _ _) (p8Z t1 t2))
end
end

section
open Go

section
variable {R H : Heap} {v u : Value} {rows : List (List Int)} {r : List Int} {Fi : Nat → Prop}
theorem Rw.putB (h : Rw R H v rows) {j : Nat} (hj : j < rows.length) (hu : Sl (eInt .u64) R u r) (hF : ∀ b, blkOf v = some b → Fi b) :
    ∃ pt H', p1Z 1 v (.int .i64 j) = some pt ∧ p2Z ty52 pt u H = some H' ∧ Rw R H' v (rows.set j r) ∧ Off Fi H H' ∧ ∀ b, H b ≠ none → H' b ≠ none := by
  obtain ⟨us, h1, h2, h3⟩ := h
  obtain ⟨jo, cap, rfl, b1, b2, b3, b4⟩ := h2.ixb hj
  obtain ⟨s1, s2⟩ := b4 ty52 u rfl rfl (by obtain ⟨_, _, _, rfl, _⟩ := hu; rfl)
  refine ⟨_, _, b3, s1, ⟨us.set j u, by simpa using h1, by rw [List.length_set]; exact s2, fun i w z hw hz => ?_⟩, fun b c hb hn => ?_, fun b hb => ?_⟩
  · by_cases c : j = i
    · subst c
      rw [List.getElem?_set_self (by omega)] at hw hz
      cases hw
      cases hz
      exact hu
    · rw [List.getElem?_set_ne c] at hw hz
      exact h3 i w z hw hz
  · rw [qOZ _ _ (fun e => by subst e; exact hn (hF _ rfl))]
    exact hb
  · by_cases e : b = jo
    · subst e
      rw [hins_self]; simp
    · rw [qOZ _ _ e]; exact hb
theorem Rw.appB {k : Value → Heap → Prop} (h : Rw R H v rows) (hu : Sl (eInt .u64) R u r) (hl : rows.length ≤ 1000) (hF : ∀ b, blkOf v = some b → Fi b)
    (hk : ∀ v' H' Fi', Rw R H' v' (rows ++ [r]) → (∀ b, blkOf v' = some b → Fi' b) → Off Fi H H' → Wide Fi H Fi' → (∀ b, Fi' b → (Fi b → H b ≠ none) → H' b ≠ none) → k v' H') :
    p3Z ty52 52 1 [((0, 1), u)] H fun s H1 => p4Z ty52 52 v s H1 k := by
  obtain ⟨us, h1, h2, h3⟩ := h
  have hu1 : u.cells.toList = [u] := by obtain ⟨_, _, _, rfl, _⟩ := hu; rfl
  have hu2 : u.cells.size = 1 := by obtain ⟨_, _, _, rfl, _⟩ := hu; rfl
  have huo : u.oneCell' = true := by obtain ⟨_, _, _, rfl, _⟩ := hu; rfl
  refine append_own (te := ty52) h2.2.1 rfl hu2 (fun c hc => by rw [hu1, List.mem_singleton] at hc; rw [hc]; exact huo) (by show 0 < 1; omega) (by show (rows.length + 1) * 24 ≤ _; omega) (by omega) fun s j cap hs hjs hj hc hc2 => ?_
  have hRj : R j = none := by
    rcases hj with hj | hj
    · exact h2.2.2 j hj
    · exact none_le h2.1 hj
  have hoff : ∀ b c, H b = some c → b ≠ j → hins (hins H s (.cells u.cells.toList (ty52).size 52 true)) j (.cells (us ++ u.cells.toList) (cap * (ty52).size) 52 true) b = some c := fun b c hb hbj => by
    rw [qOZ _ _ hbj]
    exact hins_get hs hb
  have hown : Own 1 52 (hins (hins H s (.cells u.cells.toList (ty52).size 52 true)) j (.cells (us ++ u.cells.toList) (cap * (ty52).size) 52 true)) (.slice (some ⟨j, 0, none⟩) (rows.length + 1) cap) (rows ++ [r]).length (us ++ [u]) := by
    refine .inr ⟨j, cap, by simp, by simpa using hc, hc2, ?_, by simp [h1]⟩
    rw [hins_self, hu1]
    rfl
  refine hk _ _ (fun b => Fi b ∨ b = j) ⟨us ++ [u], by simp [h1], ⟨fun x c hx => hoff x c (h2.1 x c hx) (fun e => by subst e; rw [hRj] at hx; cases hx), hown, fun x hx => by cases hx; exact hRj⟩, fun i w z hw hz => ?_⟩ (fun b hb => by cases hb; exact .inr rfl) (fun b c hb hn => hoff b c hb fun e => ?_) ⟨fun b hb => .inl hb, fun b hb => ?_⟩ (fun b hb hkn => ?_)
  · by_cases c : i < us.length
    · rw [List.getElem?_append_left (by omega)] at hw hz
      exact h3 i w z hw hz
    · rw [List.getElem?_append_right (by omega)] at hw hz
      have e : i - us.length = 0 := by
        by_cases e : i - us.length = 0
        · exact e
        · rw [List.getElem?_eq_none (by simp; omega)] at hw; cases hw
      rw [e] at hw
      rw [show i - rows.length = 0 by omega] at hz
      cases hw
      cases hz
      exact hu
  · subst e
    rcases hj with hj | hj
    · exact hn (hF b hj)
    · rw [hj] at hb; cases hb
  · rcases hb with hb | rfl
    · exact .inl hb
    · rcases hj with hj | hj
      · exact .inl (hF _ hj)
      · exact .inr hj
  · by_cases e : b = j
    · subst e
      rw [hins_self]; simp
    · rcases hb with hb | hb
      · cases he : H b with
        | none => exact absurd he (hkn hb)
        | some c => rw [hoff b c he e]; simp
      · exact absurd hb e
end
structure CastSt (R0 : Heap) (F0 : Nat → Prop) (H0 : Heap) (tn : TypeId) (jn : Nat) (s : Scn) (cv dv tv tp : Value) (rd : Int) (av sv : Value) (said : List (List Int)) (R : Heap) (F Fi : Nat → Prop) (H : Heap) (views : List (List Ev)) (rows : List (List Int)) : Prop where
  net : NetAt R F tn H jn s cv dv tv tp rd views
  rw : Rw R H av rows
  own : ∀ b, blkOf av = some b → Fi b
  bes : Beside R H F jn Fi
  sl : Sl (qXZ (eInt .u64)) R sv said
  le : Le R0 R
  fresh : ∀ b, R b ≠ none → R0 b ≠ none ∨ H0 b = none
  wide : Wide F0 H0 F
  off : Off (fun b => F0 b ∨ b = jn) H0 H
  new : ∀ b, Fi b → H0 b = none
section
variable {R0 : Heap} {F0 : Nat → Prop} {H0 : Heap} {tn : TypeId} {jn : Nat} {s : Scn} {cv dv tv tp : Value} {rd : Int} {av sv : Value} {said : List (List Int)} {R : Heap} {F Fi : Nat → Prop} {H H1 N : Heap} {views views' : List (List Ev)} {rows : List (List Int)}
theorem CastSt.known (h : CastSt R0 F0 H0 tn jn s cv dv tv tp rd av sv said R F Fi H views rows) : ∀ b, H0 b ≠ none → H b ≠ none := fun b hb => by
  by_cases e : F0 b ∨ b = jn
  · rcases e with e | rfl
    · exact h.net.kn b (h.wide.1 b e)
    · obtain ⟨vv, rows, b1, _⟩ := h.net.body
      rw [b1]; simp
  · cases he : H0 b with
    | none => exact absurd he hb
    | some c => rw [h.off b c he e]; simp
theorem CastSt.news (h : CastSt R0 F0 H0 tn jn s cv dv tv tp rd av sv said R F Fi H views rows) (hN : New H H1 N) : CastSt R0 F0 H0 tn jn s cv dv tv tp rd av sv said (hun R N) F Fi H1 views rows :=
  ⟨h.net.news hN, h.rw.news hN, h.own, h.bes.news hN, h.sl.mono (qNZ _ _), h.le.trans (qNZ _ _), fun b hb => by
    by_cases e : R b = none
    · have e2 : N b ≠ none := fun e2 => hb (hun_none.2 ⟨e, e2⟩)
      refine .inr ?_
      cases he : H0 b with
      | none => rfl
      | some c => exact absurd (hN.2.2 b e2) (h.known b (by rw [he]; simp))
    · exact h.fresh b e, h.wide, fun b c hb hn => hN.1 b c (h.off b c hb hn), h.new⟩
theorem CastSt.moved {av' : Value} {rows' : List (List Int)} {Fi' : Nat → Prop} (h : CastSt R0 F0 H0 tn jn s cv dv tv tp rd av sv said R F Fi H views rows) (hr : Rw R H1 av' rows') (ho : Off Fi H H1) (hw : Wide Fi H Fi') (hk : ∀ b, Fi' b → (Fi b → H b ≠ none) → H1 b ≠ none) (hown : ∀ b, blkOf av' = some b → Fi' b) :
    CastSt R0 F0 H0 tn jn s cv dv tv tp rd av' sv said R F Fi' H1 views rows' := by
  obtain ⟨n1, n2⟩ := h.net.beside h.bes ho hw hk
  refine ⟨n1, hr, hown, n2, h.sl, h.le, h.fresh, h.wide, fun b c hb hn => ho b c (h.off b c hb hn) fun hf => by rw [h.new b hf] at hb; exact (nomatch hb), fun b hb => ?_⟩
  rcases hw.2 b hb with e | e
  · exact h.new b e
  · cases he : H0 b with
    | none => rfl
    | some c => exact absurd e (h.known b (by rw [he]; simp))
theorem CastSt.noted (h : CastSt R0 F0 H0 tn jn s cv dv tv tp rd av sv said R F Fi H views rows) {R' : Heap} {F' : Nat → Prop} (h1 : Le R R') (h2 : ∀ i, R' i ≠ none → R i ≠ none ∨ H i = none) (h3 : NetAt R' F' tn H1 jn s cv dv tv tp rd views') (h4 : Wide F H F') (h5 : Off F H H1) :
    CastSt R0 F0 H0 tn jn s cv dv tv tp rd av sv said R' F' Fi H1 views' rows := by
  have hb := h.bes.noted h2 h4 h5
  refine ⟨h3, ?_, h.own, hb, h.sl.mono h1, h.le.trans h1, fun b hb => ?_, ⟨fun b hb => h4.1 b (h.wide.1 b hb), fun b hb => ?_⟩, fun b c hb hn => ?_, h.new⟩
  · obtain ⟨us, r1, r2, r3⟩ := h.rw
    refine ⟨us, r1, ⟨h3.le, r2.2.1.mono fun b hbb => ?_, fun b hbb => hb.off b (h.own b hbb)⟩, fun j u r hu hr => (r3 j u r hu hr).mono h1⟩
    obtain ⟨_, _, e⟩ := r2.2.1.at_ hbb
    rw [e, h5 b _ e (h.bes.dj b (h.own b hbb)).1]
  · rcases h2 b hb with e | e
    · exact h.fresh b e
    · refine .inr ?_
      cases he : H0 b with
      | none => rfl
      | some c => exact absurd e (h.known b (by rw [he]; simp))
  · rcases h4.2 b hb with e | e
    · exact h.wide.2 b e
    · refine .inr ?_
      cases he : H0 b with
      | none => rfl
      | some c => exact absurd e (h.known b (by rw [he]; simp))
  · refine h5 b c (h.off b c hb hn) fun hF => ?_
    rcases h.wide.2 b hF with e | e
    · exact hn (.inl e)
    · rw [hb] at e; cases e
theorem CastSt.done (h : CastSt R0 F0 H0 tn jn s cv dv tv tp rd av sv said R F Fi H views rows) (r : Int) : ∃ H', p2Z ty3 (.pointer (some ⟨jn, 6, none⟩)) (.int .i64 r) H = some H' ∧ Sent (qXZ (eInt .u64)) R0 F0 tn H0 jn s cv dv tv tp r views rows (.returned av) H' := by
  obtain ⟨H', t1, t2, t3⟩ := h.net.tick r
  have hFi : ∀ b, Fi b → H' b = H b := fun b hb => t3 b (h.bes.dj b hb).2
  have hlR : Le (hun R (hres H' Fi)) H' := hun_le t2.le (hres_le _ _)
  refine ⟨H', t1, hun R (hres H' Fi), F, h.le.trans (qNZ _ _), fun b hb => ?_, ?_, ?_, h.wide, fun b c hb hn => ?_⟩
  · by_cases e : R b = none
    · have e2 : hres H' Fi b ≠ none := fun e2 => hb (hun_none.2 ⟨e, e2⟩)
      by_cases e3 : Fi b
      · exact .inr (h.new b e3)
      · exact absurd (hres_out e3) e2
    · exact h.fresh b e
  · exact t2.keep (qNZ _ _) hlR (fun b c _ hc => hc) (fun b hb => hun_none.2 ⟨t2.off b hb, hres_out fun e => (h.bes.dj b e).1 hb⟩) (hun_none.2 ⟨t2.jR, hres_out fun e => (h.bes.dj jn e).2 rfl⟩)
  · obtain ⟨us, r1, r2, r3⟩ := h.rw
    refine rows_sl (r2.2.1.mono fun b hb => ?_) fun k hk => ⟨us[k]'(by omega), List.getElem?_eq_getElem (by omega), (r3 k _ _ (List.getElem?_eq_getElem (by omega)) (List.getElem?_eq_getElem hk)).mono (qNZ _ _)⟩
    have hf := h.own b hb
    have hR : R b = none := h.bes.off b hf
    simp only [hun, hR]
    rw [hres_in hf, hFi b hf]
  · rw [t3 b fun e => hn (.inr e)]
    exact h.off b c hb hn
theorem CastSt.init {H2 : Heap} {R1 : Heap} {n : Nat} (h : NetAt R F tn H jn s cv dv tv tp rd views) (h1 : NetAt R1 F tn H1 jn s cv dv tv tp rd views) (hle : Le H H1) (hR : Le R R1) (h4 : ∀ i, R1 i ≠ none → R i ≠ none ∨ H i = none) (hsl : Sl (qXZ (eInt .u64)) R1 sv said) (hg : Grown H1 H2 1 52 av n (List.replicate n (.slice none 0 0))) :
    CastSt R F H tn jn s cv dv tv tp rd av sv said R1 F (fun b => blkOf av = some b) H2 views (List.replicate n []) := by
  refine ⟨h1.mono hg.1, ⟨List.replicate n (.slice none 0 0), by simp, by rw [List.length_replicate]; exact hg.less h1.le, fun k u r hu hr => ?_⟩, fun b hb => hb, ⟨fun b hb => none_le h1.le (hg.2.2 b hb), fun b hb => ?_, fun b hb => ⟨fun hF => h1.kn b hF (hg.2.2 b hb), fun e => ?_⟩⟩, hsl, hR, h4, Wide.refl _ _, Off.of_le (hle.trans hg.1), fun b hb => none_le hle (hg.2.2 b hb)⟩
  · have hlt : k < n := by simpa using (List.getElem?_eq_some_iff.1 hu).1
    rw [List.getElem?_replicate, if_pos hlt] at hu hr
    cases hu
    cases hr
    exact Sl.nil _ _
  · obtain ⟨_, _, e⟩ := hg.2.1.at_ hb
    rw [e]; simp
  · subst e
    obtain ⟨vv, rows, b1, _⟩ := h1.body
    rw [hg.2.2 b hb] at b1
    cases b1
end
section
variable {R0 : Heap} {F0 : Nat → Prop} {H0 : Heap} {jn : Nat} {s : Scn} {cv dv tv tp : Value} {rd : Int} {av sv ov : Value} {said out : List (List Int)} {n : Nat} {R H : Heap} {F : Nat → Prop} {views : List (List Ev)}
theorem cast_row {i B : Nat} {vs0 : List (List Ev)} {rows : List (List Int)} (hn13 : n ≤ 1000) (hi : i < n) (hrl : rows.length = n) (hri : rows.getD i [] = said.getD i []) (hsw : (said.getD i []).length ≤ 1000000) (hvl : vs0.length = n) (hB : Few vs0 B) (hB2 : B + n ≤ 1000000)
    {kn : Value → Value → Value → Value → Value → Value → Heap → Prop} {kx1 : Value → Value → Value → Value → Value → Value → Heap → Prop} {kx0 : Value → Value → Heap → Prop} {Q : Ending → Heap → Prop}
    (hk : ∀ R F Fi H, CastSt R0 F0 H0 98 jn s cv dv tv tp rd av sv said R F Fi H (castRow rd said i vs0 n) rows → kn (qTZ jn) (.func (.func 79) #[qTZ jn] #[]) sv av (.int .i64 n) (.int .i64 i) H) :
    ∀ (d j : Nat) (R : Heap) (F Fi : Nat → Prop) (H : Heap), n - j = d → j ≤ n → CastSt R0 F0 H0 98 jn s cv dv tv tp rd av sv said R F Fi H (castRow rd said i vs0 j) rows →
      L48_8 (qTZ jn) (.func (.func 79) #[qTZ jn] #[]) sv av (.int .i64 i) (.int .i64 n) (.int .i64 i) (.int .i64 n) (.int .i64 j) H kn kx1 kx0 Q := by
  intro d
  induction d with
  | zero =>
    intro j R F Fi H hd hj h
    apply L48_8_round
    unfold m48_9
    refine qQZ (q7Z _ _ _) (qJZ (fun hlt => absurd hlt (by omega)) (fun _ => ?_))
    have : j = n := by omega
    subst this
    exact hk R F Fi H h
  | succ d ih =>
    intro j R F Fi H hd hj h
    apply L48_8_round
    unfold m48_9
    refine qQZ (q7Z _ _ _) (qJZ (fun hlt => ?_) (fun hlt => absurd (by omega) hlt))
    obtain ⟨pt, u, a1, a2, a3⟩ := h.rw.get (j := i) (by omega)
    rw [hri] at a3
    have hlv := castRow_len rd said i vs0 j
    have hfw := hB.castRow rd said i j
    refine qQZ a1 (qQZ a2 (oCl_ret rfl (note_spec (who := j) (fr := i) h.net (by omega) (by have := hfw j; omega) a3 hsw (by omega)) fun v H4 hv => ?_))
    obtain ⟨R4, F4, q1, q2, q3, q4, q5⟩ := hv
    refine qQZ (vInt_add _ _ _) ?_
    rw [pBZ (by omega) (by omega)]
    exact ih (j + 1) R4 F4 Fi H4 (by omega) (by omega) (h.noted q1 q2 q3 q4 q5)
theorem cast_rows {B : Nat} {vs0 : List (List Ev)} (hn13 : n ≤ 1000) (hsl : said.length = n) (hsw : ∀ i, (said.getD i []).length ≤ 1000000) (hvl : vs0.length = n) (hB : Few vs0 B) (hB2 : B + (n + 1) * n ≤ 1000000)
    {kn : Value → Value → Heap → Prop} {Q : Ending → Heap → Prop}
    (hk : ∀ R F Fi H, CastSt R0 F0 H0 98 jn s cv dv tv tp rd av sv said R F Fi H (castV rd said n vs0 n) said → kn (qTZ jn) av H) :
    ∀ (d i : Nat) (R : Heap) (F Fi : Nat → Prop) (H : Heap) (rows : List (List Int)), n - i = d → i ≤ n → rows.length = n → (∀ k, k < i → rows[k]? = said[k]?) → CastSt R0 F0 H0 98 jn s cv dv tv tp rd av sv said R F Fi H (castV rd said n vs0 i) rows →
      L48_3 (qTZ jn) (.func (.func 79) #[qTZ jn] #[]) sv av (.int .i64 n) (.int .i64 i) H kn Q := by
  intro d
  induction d with
  | zero =>
    intro i R F Fi H rows hd hi hrl hr h
    apply L48_3_round
    unfold m48_4
    refine qQZ (q7Z _ _ _) (qJZ (fun hlt => absurd hlt (by omega)) (fun _ => ?_))
    have : i = n := by omega
    subst this
    have : rows = said := List.ext_getElem? fun k => by
      by_cases hk : k < i
      · exact hr k hk
      · rw [List.getElem?_eq_none (by omega), List.getElem?_eq_none (by omega)]
    subst this
    exact hk R F Fi H h
  | succ d ih =>
    intro i R F Fi H rows hd hi hrl hr h
    apply L48_3_round
    unfold m48_4
    refine qQZ (q7Z _ _ _) (qJZ (fun hlt => ?_) (fun hlt => absurd (by omega) hlt))
    have hin : i < n := by omega
    unfold m48_6 m48_7
    obtain ⟨p1, u1, a1, a2, a3⟩ := (h.sl.mono h.net.le).slice .i64 (i := (i : Int)) (by omega) (by omega) (ti := ty52) rfl
    rw [Int.toNat_natCast] at a3
    refine qQZ a1 (qQZ a2 (copy_nil a3 (hsw i) fun w H1 hg => ?_))
    obtain ⟨N, hN, hNs⟩ := words_made hg
    have h1 := h.news hN
    have hws := hNs.mono (hun_right fun k hk => none_le h.net.le (hN.2.2 k hk))
    obtain ⟨pt, H2, c1, c2, c3, c4, c5⟩ := h1.rw.putB (j := i) (by omega) hws h1.own
    have h2 := h1.moved c3 c4 (Wide.refl _ _) (fun b hb hkn => c5 b (hkn hb)) h1.own
    have hmul : (i + 1) * n ≤ (n + 1) * n := Nat.mul_le_mul_right n (by omega)
    rw [Nat.succ_mul] at hmul
    refine qQZ c1 (p8Z c2 ?_)
    have hlen := h2.rw.len
    rw [List.length_set, hrl] at hlen
    refine qQZ hlen ?_
    refine cast_row (rows := rows.set i (said.getD i [])) hn13 hin (by simpa using hrl) (by rw [getD_set _ _ _ _ _ (by omega), if_pos rfl]) (hsw i) (by rw [castV_len]; exact hvl) (hB.cast rd said n i) (by omega) (fun R F Fi H h3 => ?_) _ 0 _ F Fi H2 rfl (by omega) h2
    unfold m48_5
    refine qQZ (vInt_add _ _ _) ?_
    rw [pBZ (by omega) (by omega)]
    refine ih (i + 1) R F Fi H _ (by omega) (by omega) (by simpa using hrl) (fun k hk => ?_) h3
    by_cases e : i = k
    · subst e
      rw [List.getElem?_set_self (by omega), List.getElem?_eq_getElem (by omega)]
      simp [show i < said.length by omega]
    · rw [List.getElem?_set_ne e]
      exact hr k (by omega)
theorem cast_spec {B : Nat} (h : NetAt R F 98 H jn s cv dv tv tp rd views) (hV : ScnV s) (ho : Sl (qXZ (eInt .u64)) R ov out) (hm : Msgs s.P s.N out) (hvl : (views.length : Int) = s.N) (hB : Few views B) (hB2 : B ≤ 900000) (hr0 : 0 ≤ rd) (hr1 : rd ≤ 1000000) :
    qVZ Tryd.prog 48 [qTZ jn, ov] H (Sent (qXZ (eInt .u64)) R F 98 H jn s cv dv tv tp (rd + 1) (castV rd (applyB s rd out s.devs.length) views.length views views.length) (applyB s rd out s.devs.length)) := by
  obtain ⟨hp, hn4, hn13, _⟩ := hV.par
  have hds : ∀ d ∈ s.devs, DevOk s.N d := fun d hd => (hV.devs d hd).2
  have hpp := hp.pos
  have hsm := applyB_msgs (rd := rd) (show 0 < s.P by omega) hm s.devs.length (Nat.le_refl _)
  have hsl := hsm.len
  apply call48
  unfold m48
  refine qQZ (v := qTZ jn) rfl (qQZ (q1Z _ _) (qQZ h.scn (qQZ (v := qTZ jn) rfl (qQZ (q1Z _ _) (qQZ h.r ?_)))))
  refine oRC_frame (applyB_spec hp h.ok ho hm hds (by omega)) h.le fun sv R1 H1 hq hl1 h3 h4 => ?_
  obtain ⟨hR, hsv⟩ := hq
  obtain ⟨h1, hle⟩ := h.framed hR hl1 h3 h4
  have hnl := h1.n
  rw [← hvl] at hnl
  refine qQZ (v := qTZ jn) rfl (qQZ (q1Z _ _) (qQZ (v := .pointer (some ⟨jn, 0, none⟩)) rfl (qQZ (v := .pointer (some ⟨jn, 1, none⟩)) rfl (qQZ hnl ?_))))
  refine oMake_own (te := ty52) rfl (by show 24 * _ ≤ _; omega) (by omega) fun av H2 hg => ?_
  rw [zerosL_one rfl] at hg
  have hs := CastSt.init h h1 hle hR h4 hsv hg
  generalize applyB s rd out s.devs.length = said at hsm hsl hsv hs ⊢
  unfold m48_2
  refine qQZ hg.2.1.len ?_
  have hmul : (views.length + 1) * views.length ≤ 14 * 13 := Nat.mul_le_mul (by omega) (by omega)
  refine cast_rows (by omega) (by omega) (fun i => by have := (hsm.get i).2; omega) rfl hB (by omega) (fun R' F' Fi' H' hd => ?_) _ 0 R1 F _ H2 _ rfl (by omega) (by simp) (fun k hk => absurd hk (by omega)) hs
  unfold m48_1
  obtain ⟨K, t1, t2⟩ := hd.done (rd + 1)
  refine qQZ (v := qTZ jn) rfl (qQZ (q1Z _ _) (qQZ hd.net.r (qQZ (vInt_add _ _ _) ?_)))
  rw [pBZ (by omega) (by omega)]
  exact qQZ (v := qTZ jn) rfl (qQZ (q1Z _ _) (p8Z t1 t2))
end
end

section
open Go

theorem copy_empty {H : Heap} {k : Value → Heap → Prop} (hk : ∀ s H1, Le H H1 → (∀ (v : Value) (xs : List Int) (k' : Value → Heap → Prop), Sl (eInt .u64) H v xs → xs.length ≤ 1000000 → (∀ v' H', Grown H H' 1 22 v' xs.length (xs.map (.int .u64)) → k' v' H') → p4Z ty22 22 s v H1 k') → k s H1) : p3Z ty22 22 0 [] H k := by
  refine oBuildS_none fun i hi => hk _ _ (Le.ins _ hi) fun v xs k' h hm hk' => ?_
  obtain ⟨b, cap, rfl, e2, e3, e4⟩ := h.ints
  have h1 : ∀ v ∈ xs.map (Value.int .u64), v.oneCell' = true := fun v hv => by obtain ⟨x, _, rfl⟩ := List.mem_map.1 hv; rfl
  have ho : Own 1 22 (hins H i (.cells [] 0 22 true)) (.slice (some ⟨i, 0, none⟩) 0 0) 0 [] := .inr ⟨i, 0, rfl, by omega, by omega, by rw [hins_self, Nat.zero_mul], by simp⟩
  have hr' : rdSlice 1 (hins H i (.cells [] 0 22 true)) b xs.length = some (xs.map (.int .u64)) := rdSlice_mono (Le.ins _ hi) e4
  by_cases hp : 0 < xs.length
  · refine oAppend_own (te := ty22) ho hr' h1 hp (by show 0 < 1; omega) (by show (0 + xs.length) * 8 ≤ _; omega) (by omega) (by simp [ty22]) fun j' c hj' hc' hc2 => ?_
    rw [Nat.zero_add] at hc' ⊢
    rw [List.nil_append]
    have hj0 : H j' = none := by
      rcases hj' with e | e
      · cases e
        exact hi
      · exact (hins_none e).2
    refine hk' _ _ ⟨fun k d hk => ?_, .inr ⟨j', c, rfl, hc', hc2, hins_self _ _ _, by simp⟩, fun k hk => by cases hk; exact hj0⟩
    rw [qOZ _ _ (fun e => by subst e; rw [hj0] at hk; cases hk)]
    exact hins_get hi hk
  · have e0 : xs = [] := List.eq_nil_of_length_eq_zero (by omega)
    subst e0
    refine ⟨[], [], rfl, hr', h1, by simp, by simp, fun _ => ?_, fun h => absurd h (by simp)⟩
    simp only [oRoom, if_true]
    exact hk' _ _ ⟨Le.ins _ hi, ho, fun j hj => by cases hj; exact hi⟩
section
variable {R0 : Heap} {F0 : Nat → Prop} {H0 : Heap} {jn : Nat} {s : Scn} {cv dv tv tp : Value} {rd : Int} {iv sv ov : Value} {said out : List (List (List Int))} {n : Nat}
end
section
variable {R R1 H H1 : Heap} {F : Nat → Prop} {tn : TypeId} {jn : Nat} {s : Scn} {cv dv tv tp ov : Value} {rd : Int} {views : List (List Ev)}
end
section
variable {R0 : Heap} {F0 : Nat → Prop} {H0 : Heap} {jn : Nat} {s : Scn} {cv dv tv tp : Value} {rd : Int} {sv ov : Value} {said out : List (List Int)} {n : Nat} {R H : Heap} {F : Nat → Prop} {views : List (List Ev)}
end
end

section
open Go

theorem Own.appB {te : TI} {e : TypeId} {H : Heap} {v x : Value} {n : Nat} {cs : List Value} {Fi : Nat → Prop} {k : Value → Heap → Prop} (ho : Own te.size e H v n cs) (hz : te.zero.cells.size = te.size) (hx : x.cells.size = te.size) (hx1 : ∀ c ∈ x.cells.toList, c.oneCell' = true) (hs : 0 < te.size) (hb : (n + 1) * te.bytes ≤ 140737488355328) (hm : n + 1 ≤ 9223372036854775807) (hF : ∀ b, blkOf v = some b → Fi b)
    (hk : ∀ v' H' Fi', Own te.size e H' v' (n + 1) (cs ++ x.cells.toList) → (∀ b, blkOf v' = some b → Fi' b) → Off Fi H H' → Wide Fi H Fi' → (∀ b, Fi' b → (Fi b → H b ≠ none) → H' b ≠ none) → k v' H') :
    p3Z te e 1 [((0, te.size), x)] H fun s H1 => p4Z te e v s H1 k := by
  have hxl : x.cells.toList.length = te.size := by simpa using hx
  refine append_own ho hz hx hx1 hs hb hm fun s j cap hs' hjs hj hc hc2 => ?_
  have hoff : ∀ b c, H b = some c → b ≠ j → hins (hins H s (.cells x.cells.toList te.size e true)) j (.cells (cs ++ x.cells.toList) (cap * te.size) e true) b = some c := fun b c hb hbj => by
    rw [qOZ _ _ hbj]
    exact hins_get hs' hb
  refine hk _ _ (fun b => Fi b ∨ b = j) (.inr ⟨j, cap, rfl, hc, hc2, hins_self _ _ _, by rw [List.length_append, ho.length, hxl, Nat.succ_mul]⟩) (fun b hb => by cases hb; exact .inr rfl) (fun b c hb hn => hoff b c hb fun e => ?_) ⟨fun b hb => .inl hb, fun b hb => ?_⟩ (fun b hb hkn => ?_)
  · subst e
    rcases hj with hj | hj
    · exact hn (hF b hj)
    · rw [hj] at hb; cases hb
  · rcases hb with hb | rfl
    · exact .inl hb
    · rcases hj with hj | hj
      · exact .inl (hF _ hj)
      · exact .inr hj
  · by_cases e : b = j
    · subst e
      rw [hins_self]; simp
    · rcases hb with hb | hb
      · cases he : H b with
        | none => exact absurd he (hkn hb)
        | some c => rw [hoff b c he e]; simp
      · exact absurd hb e
section
variable {R R1 H H1 : Heap} {F : Nat → Prop} {tn : TypeId} {jn : Nat} {s : Scn} {cv dv tv tp : Value} {rd : Int} {views : List (List Ev)}
theorem NetAt.lt (h : NetAt R F tn H jn s cv dv tv tp rd views) {ti : TI} (ht : ti.agg = false) : qWZ ti (.pointer (some ⟨jn, 8, none⟩)) H = some tp := by
  obtain ⟨vv, rows, b1, _⟩ := h.body
  simp only [qWZ, b1, ht, Bool.false_eq_true, if_false]
  rfl
theorem NetAt.retape (h : NetAt R F tn H jn s cv dv tv tp rd views) {ti : TI} {tp' : Value} (ht : ti.agg = false) (hs : ti.size = 1) (ho : tp'.oneCell' = true) : ∃ H', p2Z ti (.pointer (some ⟨jn, 8, none⟩)) tp' H = some H' ∧ NetAt R F tn H' jn s cv dv tv tp' rd views ∧ ∀ b, b ≠ jn → H' b = H b := by
  obtain ⟨vv, rows, b1, b2, b3, b4⟩ := h.body
  have st : p2Z ti (.pointer (some ⟨jn, 8, none⟩)) tp' H = some (hins H jn (.cells (netCells s cv dv tv tp' rd vv) 9 tn true)) := by
    simp only [p2Z, b1, stCells, ht, Bool.false_eq_true, if_false]
    rw [if_pos ⟨hs, ho, by show 8 < 9; omega⟩]
    rfl
  have oth : ∀ b, b ≠ jn → hins H jn (.cells (netCells s cv dv tv tp' rd vv) 9 tn true) b = H b := fun b hb => qOZ _ _ hb
  have hF : ∀ b, F b → b ≠ jn := fun b hb e => h.jF (e ▸ hb)
  refine ⟨_, st, ⟨fun b c hc => ?_, h.ok, h.off, fun b hb => ?_, h.jR, h.jF, vv, rows, hins_self _ _ _, b2.keep fun b c hb hc => ?_, b3, b4⟩, oth⟩
  · rw [oth b (fun e => by subst e; rw [h.jR] at hc; cases hc)]
    exact h.le b c hc
  · rw [oth b (hF b hb)]
    exact h.kn b hb
  · rw [oth b (hF b hb)]
    exact hc
end
structure TapSt (R : Heap) (F : Nat → Prop) (tn tt : TypeId) (jn : Nat) (s : Scn) (cv dv tv : Value) (views : List (List Ev)) (tp : Value) (Ft : Nat → Prop) (H : Heap) (i : Nat) : Prop where
  net : NetAt R F tn H jn s cv dv tv tp 0 views
  tap : ∃ us, Own 1 tt H tp i us
  own : ∀ b, blkOf tp = some b → Ft b
  bes : Beside R H F jn Ft
section
variable {R H H1 : Heap} {F Ft : Nat → Prop} {tn tt : TypeId} {jn : Nat} {s : Scn} {cv dv tv tp : Value} {views : List (List Ev)} {i : Nat}
theorem TapSt.mono (h : TapSt R F tn tt jn s cv dv tv views tp Ft H i) (hl : Le H H1) : TapSt R F tn tt jn s cv dv tv views tp Ft H1 i := by
  obtain ⟨us, ho⟩ := h.tap
  refine ⟨h.net.mono hl, ⟨us, ho.mono fun b hb => ?_⟩, h.own, ⟨h.bes.off, fun b hb => ?_, h.bes.dj⟩⟩
  · obtain ⟨_, _, e⟩ := ho.at_ hb
    rw [e, hl _ _ e]
  · cases he : H b with
    | none => exact absurd he (h.bes.kn b hb)
    | some c => rw [hl b c he]; simp
theorem TapSt.push {te tl : TI} {q : Nat} {k : Value → Heap → Prop} (h : TapSt R F tn tt jn s cv dv tv views tp Ft H i) (hz : te.zero.cells.size = te.size) (hs : te.size = 1) (hby : te.bytes = 8) (hla : tl.agg = false) (hls : tl.size = 1) (hi : i ≤ 1000)
    (hk : ∀ tp' H1 H2 Ft', p2Z tl (.pointer (some ⟨jn, 8, none⟩)) tp' H1 = some H2 → TapSt R F tn tt jn s cv dv tv views tp' Ft' H2 (i + 1) → k tp' H1) :
    p3Z te tt 1 [((0, te.size), qTZ q)] H fun s H1 => p4Z te tt tp s H1 k := by
  obtain ⟨us, ho⟩ := h.tap
  refine Own.appB (te := te) (n := i) (cs := us) (by rw [hs]; exact ho) hz (by rw [hs]; rfl) (fun c hc => by have : c = qTZ q := List.mem_singleton.1 hc; rw [this]; rfl) (by omega) (by rw [hby]; omega) (by omega) h.own fun tp' H1 Ft' c1 c2 c3 c4 c5 => ?_
  obtain ⟨n1, n2⟩ := h.net.beside h.bes c3 c4 c5
  have ho1 : tp'.oneCell' = true := by rcases c1 with ⟨rfl, _⟩ | ⟨_, _, rfl, _⟩ <;> rfl
  obtain ⟨H2, t1, t2, t3⟩ := n1.retape (ti := tl) (tp' := tp') hla hls ho1
  rw [hs] at c1
  refine hk tp' H1 H2 Ft' t1 ⟨t2, ⟨_, c1.mono fun b hb => t3 b (n2.dj b (c2 b hb)).2⟩, c2, ⟨n2.off, fun b hb => ?_, n2.dj⟩⟩
  rw [t3 b (n2.dj b hb).2]
  exact n2.kn b hb
theorem TapSt.init {H2 H3 : Heap} {vv : Value} {n : Nat} (hok : ScnOk H s cv dv tv) (hg : Grown H H2 1 49 vv n (List.replicate n (.slice none 0 0))) (hj : H2 jn = none) (h3 : H3 = hins H2 jn (.cells (netCells s cv dv tv (.slice none 0 0) 0 vv) 9 tn true)) :
    TapSt H (fun b => blkOf vv = some b) tn tt jn s cv dv tv (List.replicate n []) (.slice none 0 0) (fun _ => False) H3 0 := by
  subst h3
  have hl := Le.ins (.cells (netCells s cv dv tv (.slice none 0 0) 0 vv) 9 tn true) hj
  have kn2 : ∀ b, blkOf vv = some b → H2 b ≠ none := fun b hb => by
    obtain ⟨_, _, e⟩ := hg.2.1.at_ hb
    rw [e]; simp
  refine ⟨⟨hg.1.trans hl, hok, hg.2.2, fun b hb => ?_, none_le hg.1 hj, fun hb => kn2 jn hb hj, vv, List.replicate n [], hins_self _ _ _, (Nest.new hg).mono hl, by simp, fun k cs es hc he => ?_⟩, ⟨[], Own.nil _ _ _⟩, fun b hb => (by cases hb), ⟨fun b hb => hb.elim, fun b hb => hb.elim, fun b hb => hb.elim⟩⟩
  · cases he : H2 b with
    | none => exact absurd he (kn2 b hb)
    | some c => rw [hl b c he]; simp
  · have hlt : k < n := by simpa using (List.getElem?_eq_some_iff.1 hc).1
    rw [List.getElem?_replicate, if_pos hlt] at hc he
    cases hc
    cases he
    exact Cs.nil _ _
end
section
variable {H R : Heap} {F : Nat → Prop} {jn i1 : Nat} {s : Scn} {cv dv tv : Value} {views : List (List Ev)}
end
section
variable {R H : Heap} {F : Nat → Prop} {tn : TypeId} {jn : Nat} {s : Scn} {cv dv tv tp : Value} {rd : Int} {views : List (List Ev)}
theorem rounds_spec (h : NetAt R F tn H jn s cv dv tv tp rd views) : qVZ Tryd.prog 14 [qTZ jn] H (Val (.int .i64 rd) H) := by
  apply call14
  unfold m14
  exact qQZ (v := qTZ jn) rfl (qQZ (q1Z _ _) (qQZ h.r ⟨rfl, rfl⟩))
theorem scenario_spec (h : NetAt R F tn H jn s cv dv tv tp rd views) : qVZ Tryd.prog 19 [qTZ jn] H (Ret fun v H' => v = scnVal s cv dv tv ∧ Le H H') := by
  apply call19
  unfold m19
  obtain ⟨b1, c1, _, rfl, _⟩ := id h.ok.bad
  obtain ⟨b2, c2, _, rfl, _⟩ := id h.ok.devs
  obtain ⟨b3, c3, _, rfl, _⟩ := id h.ok.tapes
  show oNew [.int .u64 0, .int .i64 0, .int .i64 0, .slice none 0 0, .slice none 0 0, .slice none 0 0] 6 29 H _
  intro q hq
  have hl := Le.ins (.cells [.int .u64 0, .int .i64 0, .int .i64 0, .slice none 0 0, .slice none 0 0, .slice none 0 0] 6 29 true) hq
  refine qQZ (v := qTZ jn) rfl (qQZ (q1Z _ _) (qQZ (h.mono hl).scn ?_))
  have st : p2Z ty29 (qTZ q) (scnVal s (.slice b1 s.bad.length c1) (.slice b2 s.devs.length c2) (.slice b3 s.tapes.length c3)) (hins H q (.cells [.int .u64 0, .int .i64 0, .int .i64 0, .slice none 0 0, .slice none 0 0, .slice none 0 0] 6 29 true)) =
      some (hins (hins H q (.cells [.int .u64 0, .int .i64 0, .int .i64 0, .slice none 0 0, .slice none 0 0, .slice none 0 0] 6 29 true)) q (.cells [.int .u64 s.P, .int .i64 s.N, .int .i64 s.T, .slice b1 s.bad.length c1, .slice b2 s.devs.length c2, .slice b3 s.tapes.length c3] 6 29 true)) := by
    simp only [p2Z, qTZ, hins_self]
    rfl
  rw [hins_hins] at st
  refine p8Z st ?_
  have ld : qWZ ty29 (qTZ q) (hins H q (.cells [.int .u64 s.P, .int .i64 s.N, .int .i64 s.T, .slice b1 s.bad.length c1, .slice b2 s.devs.length c2, .slice b3 s.tapes.length c3] 6 29 true)) = some (scnVal s (.slice b1 s.bad.length c1) (.slice b2 s.devs.length c2) (.slice b3 s.tapes.length c3)) := by
    simp only [qWZ, qTZ, hins_self]
    rfl
  rw [ld]
  exact ⟨rfl, Le.ins _ hq⟩
end
end

section
open Go

theorem copyG {te : TI} {e : TypeId} {b : Option Addr} {n cap : Nat} {cs : List Value} {H : Heap} {k : Value → Heap → Prop} (hr : rdSlice te.size H b n = some cs) (h1 : ∀ v ∈ cs, v.oneCell' = true) (hs : 0 < te.size) (hb : n * te.bytes ≤ 140737488355328) (hm : n ≤ 9223372036854775807) (hl : cs.length = n * te.size)
    (hk : ∀ v' H', Grown H H' te.size e v' n cs → k v' H') : p4Z te e (.slice none 0 0) (.slice b n cap) H k := by
  by_cases hp : 0 < n
  · refine oAppend_own (Own.nil _ _ H) hr h1 hp hs (by rw [Nat.zero_add]; exact hb) (by omega) hl fun j c hj hc hc2 => ?_
    have hj0 : H j = none := by
      rcases hj with e | e
      · cases e
      · exact e
    rw [Nat.zero_add] at hc ⊢
    rw [List.nil_append]
    exact hk _ _ ⟨Le.ins _ hj0, .inr ⟨j, c, rfl, hc, hc2, hins_self _ _ _, hl⟩, fun i hi => by cases hi; exact hj0⟩
  · have e0 : n = 0 := by omega
    subst e0
    have ec : cs = [] := List.eq_nil_of_length_eq_zero (by omega)
    subst ec
    refine ⟨[], [], rfl, hr, h1, by simp, by simp, fun _ => ?_, fun h => absurd h (by simp)⟩
    simp only [oRoom, if_true]
    exact hk _ _ (Grown.nil _ _ _)
theorem emptyG {te : TI} {e : TypeId} {H : Heap} {k : Value → Heap → Prop} (hs : 0 < te.size) (hk : ∀ s H1, Le H H1 → (∀ (b : Option Addr) (n cap : Nat) (cs : List Value) (k' : Value → Heap → Prop), rdSlice te.size H b n = some cs → (∀ v ∈ cs, v.oneCell' = true) → n * te.bytes ≤ 140737488355328 → n ≤ 9223372036854775807 → cs.length = n * te.size → (∀ v' H', Grown H H' te.size e v' n cs → k' v' H') → p4Z te e s (.slice b n cap) H1 k') → k s H1) : p3Z te e 0 [] H k := by
  refine oBuildS_none fun i hi => hk _ _ (Le.ins _ hi) fun b n cap cs k' hr h1 hb hm hl hk' => ?_
  have ho : Own te.size e (hins H i (.cells [] 0 e true)) (.slice (some ⟨i, 0, none⟩) 0 0) 0 [] := .inr ⟨i, 0, rfl, by omega, by omega, by rw [hins_self, Nat.zero_mul], by simp⟩
  have hr' : rdSlice te.size (hins H i (.cells [] 0 e true)) b n = some cs := rdSlice_mono (Le.ins _ hi) hr
  by_cases hp : 0 < n
  · refine oAppend_own ho hr' h1 hp hs (by rw [Nat.zero_add]; exact hb) (by omega) hl fun j' c hj' hc' hc2 => ?_
    rw [Nat.zero_add] at hc' ⊢
    rw [List.nil_append]
    have hj0 : H j' = none := by
      rcases hj' with e | e
      · cases e
        exact hi
      · exact (hins_none e).2
    refine hk' _ _ ⟨fun k d hk => ?_, .inr ⟨j', c, rfl, hc', hc2, hins_self _ _ _, hl⟩, fun k hk => by cases hk; exact hj0⟩
    rw [qOZ _ _ (fun e => by subst e; rw [hj0] at hk; cases hk)]
    exact hins_get hi hk
  · have e0 : n = 0 := by omega
    subst e0
    have ec : cs = [] := List.eq_nil_of_length_eq_zero (by omega)
    subst ec
    refine ⟨[], [], rfl, hr', h1, by simp, by simp, fun _ => ?_, fun h => absurd h (by simp)⟩
    simp only [oRoom, if_true]
    exact hk' _ _ ⟨Le.ins _ hi, ho, fun j hj => by cases hj; exact hi⟩
theorem Cs.ones {R : Heap} {cs : List Value} {es : List Ev} (h : Cs eEv R cs es) : ∀ c ∈ cs, c.oneCell' = true := by
  intro c hc
  obtain ⟨k, hk, rfl⟩ := List.mem_iff_getElem.1 hc
  have hl : cs.length = es.length * 3 := h.1
  have hi : k / 3 < es.length := by omega
  obtain ⟨w, hw, hs⟩ := h.2 (k / 3) es[k / 3] (List.getElem?_eq_getElem hi)
  have h3 : eEv.sz = 3 := rfl
  rw [h3] at hw
  have hm : cs[k] ∈ (cs.drop (k / 3 * 3)).take 3 := by
    rw [List.mem_iff_getElem?]
    refine ⟨k - k / 3 * 3, ?_⟩
    rw [List.getElem?_take, if_pos (by omega), List.getElem?_drop, show k / 3 * 3 + (k - k / 3 * 3) = k by omega, List.getElem?_eq_getElem hk]
  rw [hw] at hm
  simp only [List.mem_cons, List.not_mem_nil, or_false] at hm
  rcases hm with e | e | e
  · rw [e]; rfl
  · rw [e]; rfl
  · rw [e]
    obtain ⟨_, _, _, rfl, _⟩ := hs
    rfl
section
variable {R H : Heap} {F : Nat → Prop} {tn : TypeId} {jn : Nat} {s : Scn} {cv dv tv tp : Value} {rd : Int} {views : List (List Ev)}
theorem NetAt.view (h : NetAt R F tn H jn s cv dv tv tp rd views) {i : Nat} (hi : i < views.length) : ∃ vv pt b n cap cs, qWZ ty95 (.pointer (some ⟨jn, 7, none⟩)) H = some vv ∧ p1Z 1 vv (.int .i64 i) = some pt ∧ qWZ ty49 pt H = some (.slice b n cap) ∧ rdSlice 3 H b n = some cs ∧ Cs eEv R cs (views.getD i []) ∧ n = (views.getD i []).length := by
  obtain ⟨vv, rows, b1, b2, b3, b4⟩ := h.body
  obtain ⟨pt, u, n, g1, g2, g3, g4⟩ := b2.get (j := i) (by omega)
  have hir : i < rows.length := by omega
  have er : rows.getD i [] = rows[i] := by simp [hir]
  have ev : views.getD i [] = views[i] := by simp [hi]
  have hc := b4 i rows[i] views[i] (List.getElem?_eq_getElem hir) (List.getElem?_eq_getElem hi)
  have hn := g3.length
  obtain ⟨b, cap, rfl, _, g6⟩ := g3.read
  refine ⟨vv, pt, b, n, cap, rows.getD i [], ?_, g1, g2 ty49 rfl, g6, by rw [er, ev]; exact hc, ?_⟩
  · simp only [qWZ, b1]
    rfl
  · rw [er] at hn
    rw [ev]
    have h1 : rows[i].length = views[i].length * 3 := hc.1
    omega
theorem view_spec (h : NetAt R F 98 H jn s cv dv tv tp rd views) {i : Nat} (hi : i < views.length) (hb : (views.getD i []).length ≤ 1000000) : qVZ Tryd.prog 17 [qTZ jn, .int .i64 ((i : Int) + 1)] H (Ret fun v H' => Le H H' ∧ Sl eEv H' v (views.getD i [])) := by
  apply call17
  unfold m17
  obtain ⟨vv, pt, b, n, cap, cs, g1, g2, g3, g4, g5, g6⟩ := h.view hi
  have hm := h.body
  obtain ⟨_, rows, _, b2, b3, _⟩ := hm
  have hmx := b2.max
  have wi : vInt .sub (.int .i64 ((i : Int) + 1)) (.int .i64 1) = some (.int .i64 i) := by
    rw [vInt_sub, pBZ (by omega) (by omega)]
    congr 2
    omega
  refine qQZ (v := qTZ jn) rfl (qQZ (q1Z _ _) (qQZ g1 (qQZ wi (qQZ g2 (qQZ g3 ?_)))))
  refine copyG (te := ty90) g4 g5.ones (by show 0 < 3; omega) (by show n * 40 ≤ _; omega) (by omega) (by rw [g5.1, g6]; rfl) fun v' H' hg => ?_
  exact ⟨hg.1, g5.sl (h.le.trans hg.1) hg.2.1 (by decide)⟩
end
section
variable {H : Heap} {a b : Value}
theorem words_spec {xs : List Int} (ha : Sl (eInt .u64) H a xs) (hb : Sl (eInt .u64) H b xs) : qVZ Tryd.prog 24 [a, b] H (Val (.bool true) H) := by
  have hmx := ha.max
  apply call24
  unfold m24
  refine qQZ ha.len (qQZ hb.len (qQZ (q6Z _ _ _) ?_))
  rw [decide_eq_false (by simp)]
  refine qLZ ?_
  unfold m24_2
  have key : ∀ (n i : Nat), xs.length - i = n → i ≤ xs.length → L24_3 a b (.int .i64 i) H (fun H_40 => m24_1 H_40 (Val (.bool true) H)) (Val (.bool true) H) := by
    intro n
    induction n with
    | zero =>
      intro i hd hi
      apply L24_3_round
      unfold m24_4
      refine qQZ ha.len (qQZ (q7Z _ _ _) (qJZ (fun hlt => absurd hlt (by omega)) (fun _ => ?_)))
      unfold m24_1
      exact ⟨rfl, rfl⟩
    | succ n ih =>
      intro i hd hi
      apply L24_3_round
      unfold m24_4
      refine qQZ ha.len (qQZ (q7Z _ _ _) (qJZ (fun hlt => ?_) (fun hlt => absurd (by omega) hlt)))
      obtain ⟨qa, f1, f2⟩ := ha.int .i64 (i := (i : Int)) (by omega) (by omega) (ti := ty22) rfl
      obtain ⟨qb, g1, g2⟩ := hb.int .i64 (i := (i : Int)) (by omega) (by omega) (ti := ty22) rfl
      refine qQZ f1 (qQZ f2 (qQZ g1 (qQZ g2 (qQZ (q6Z _ _ _) ?_))))
      rw [decide_eq_false (by simp)]
      refine qLZ (qQZ (vInt_add _ _ _) ?_)
      rw [pBZ (by omega) (by omega)]
      exact ih (i + 1) (by omega) (by omega)
  exact key _ 0 rfl (by omega)
theorem Sl.ev {v : Value} {es : List Ev} (h : Sl eEv H v es) {i : Nat} (hi : i < es.length) : ∃ q off w, p1Z 3 v (.int .i64 i) = some (.pointer (some ⟨q, off, none⟩)) ∧ qWZ ty3 (.pointer (some ⟨q, off + 0, none⟩)) H = some (.int .i64 es[i].rd) ∧ qWZ ty3 (.pointer (some ⟨q, off + 1, none⟩)) H = some (.int .i64 es[i].fr) ∧ qWZ ty52 (.pointer (some ⟨q, off + 2, none⟩)) H = some w ∧ Sl (eInt .u64) H w es[i].ws := by
  obtain ⟨b, cap, cs, rfl, h2, h3, h4, h5⟩ := h
  have hl := rdSlice_len h4
  have h3' : eEv.sz = 3 := rfl
  rw [h3'] at hl h4
  obtain ⟨w, hw, hs⟩ := h5 i es[i] (List.getElem?_eq_getElem hi)
  rw [h3'] at hw
  have hn : ¬ es.length = 0 := by omega
  unfold rdSlice at h4
  rw [if_neg hn] at h4
  cases b with
  | none => cases h4
  | some a =>
    obtain ⟨q, off, sp⟩ := a
    cases sp with
    | some _ => cases h4
    | none =>
      simp only [rdCells] at h4
      cases hc : H q with
      | none => rw [hc] at h4; cases h4
      | some c =>
        rw [hc] at h4
        cases c with
        | obj _ => cases h4
        | cells ds a e wr =>
          simp only at h4
          by_cases hle : off + es.length * 3 ≤ ds.length
          · rw [if_pos hle] at h4
            cases h4
            have hget : ∀ r, r < 3 → ds[off + i * 3 + r]? = [Value.int .i64 es[i].rd, .int .i64 es[i].fr, w][r]? := fun r hr => by
              rw [← hw, List.getElem?_take, if_pos hr, List.getElem?_drop, List.getElem?_take, if_pos (by omega), List.getElem?_drop]
              congr 1
              omega
            refine ⟨q, off + i * 3, w, ?_, ?_, ?_, ?_, hs⟩
            · simp only [p1Z]
              rw [if_pos (by omega)]
              simp
            · simp only [qWZ, hc]
              exact hget 0 (by omega)
            · simp only [qWZ, hc]
              exact hget 1 (by omega)
            · simp only [qWZ, hc]
              exact hget 2 (by omega)
          · rw [if_neg hle] at h4
            cases h4
theorem views_spec {es : List Ev} (ha : Sl eEv H a es) (hb : Sl eEv H b es) : qVZ Tryd.prog 16 [a, b] H (Val (.bool true) H) := by
  have hmx := ha.max
  apply call16
  unfold m16
  refine qQZ ha.len (qQZ hb.len (qQZ (q6Z _ _ _) ?_))
  rw [decide_eq_false (by simp)]
  refine qLZ ?_
  unfold m16_2
  have key : ∀ (n i : Nat), es.length - i = n → i ≤ es.length → L16_3 a b (.int .i64 i) H (fun H_40 => m16_1 H_40 (Val (.bool true) H)) (Val (.bool true) H) := by
    intro n
    induction n with
    | zero =>
      intro i hd hi
      apply L16_3_round
      unfold m16_4
      refine qQZ ha.len (qQZ (q7Z _ _ _) (qJZ (fun hlt => absurd hlt (by omega)) (fun _ => ?_)))
      unfold m16_1
      exact ⟨rfl, rfl⟩
    | succ n ih =>
      intro i hd hi
      apply L16_3_round
      unfold m16_4
      refine qQZ ha.len (qQZ (q7Z _ _ _) (qJZ (fun hlt => ?_) (fun hlt => absurd (by omega) hlt)))
      have hil : i < es.length := by omega
      obtain ⟨pa, oa, wa, a1, a2, a3, a4, a5⟩ := ha.ev hil
      obtain ⟨pb, ob, wb, b1, b2, b3, b4, b5⟩ := hb.ev hil
      generalize es[i] = e at a2 a3 a5 b2 b3 b5
      have er : vInt .neq (.int .i64 e.rd) (.int .i64 e.rd) = some (.bool false) := by rw [q6Z, decide_eq_false (by simp)]
      have ef : vInt .neq (.int .i64 e.fr) (.int .i64 e.fr) = some (.bool false) := by rw [q6Z, decide_eq_false (by simp)]
      refine qQZ a1 (qQZ (v := .pointer (some ⟨pa, oa + 0, none⟩)) rfl (qQZ a2 (qQZ b1 (qQZ (v := .pointer (some ⟨pb, ob + 0, none⟩)) rfl (qQZ b2 (qQZ er ?_))))))
      refine qQZ (v := a) rfl (qQZ (v := .int .i64 i) rfl (qQZ (v := .pointer (some ⟨pa, oa, none⟩)) a1 (qQZ (v := .pointer (some ⟨pa, oa + 1, none⟩)) rfl (qQZ (v := .int .i64 e.fr) a3 (qQZ (v := b) rfl (qQZ (v := .int .i64 i) rfl (qQZ (v := .pointer (some ⟨pb, ob, none⟩)) b1 (qQZ (v := .pointer (some ⟨pb, ob + 1, none⟩)) rfl (qQZ (v := .int .i64 e.fr) b3 (qQZ (v := .bool false) ef (qQZ (v := .bool false) rfl ?_)))))))))))
      refine qQZ (v := a) rfl (qQZ (v := .int .i64 i) rfl (qQZ (v := .pointer (some ⟨pa, oa, none⟩)) a1 (qQZ (v := .pointer (some ⟨pa, oa + 2, none⟩)) rfl (qQZ (v := wa) a4 (qQZ (v := b) rfl (qQZ (v := .int .i64 i) rfl (qQZ (v := .pointer (some ⟨pb, ob, none⟩)) b1 (qQZ (v := .pointer (some ⟨pb, ob + 2, none⟩)) rfl (qQZ (v := wb) b4 ?_)))))))))
      refine gK_FF (oRC_val (words_spec a5 b5) ?_)
      refine qQZ (v := .bool false) rfl (qQZ (v := .bool false) rfl (qLZ (qQZ (vInt_add _ _ _) ?_)))
      rw [pBZ (by omega) (by omega)]
      exact ih (i + 1) (by omega) (by omega)
  exact key _ 0 rfl (by omega)
end
structure Pair (R : Heap) (F G : Nat → Prop) (H : Heap) (jn jm : Nat) (s : Scn) (cv dv tv t1 t2 : Value) (rd : Int) (views : List (List Ev)) : Prop where
  n : NetAt R F 98 H jn s cv dv tv t1 rd views
  m : NetAt R G 103 H jm s cv dv tv t2 rd views
  dj : ∀ b, G b ∨ b = jm → ¬ (F b ∨ b = jn)
section
variable {R R' H H' N : Heap} {F F' G : Nat → Prop} {tn tm : TypeId} {jn jm : Nat} {s : Scn} {cv dv tv t1 t2 : Value} {rd rd' : Int} {views views' : List (List Ev)}
theorem NetAt.at_ (h : NetAt R F tn H jn s cv dv tv t1 rd views) : ∀ b, F b ∨ b = jn → H b ≠ none ∧ R b = none := fun b hb => by
  rcases hb with hb | rfl
  · exact ⟨h.kn b hb, h.off b hb⟩
  · obtain ⟨vv, rows, b1, _⟩ := h.body
    exact ⟨by rw [b1]; simp, h.jR⟩
theorem NetAt.other (hm : NetAt R G tm H jm s cv dv tv t2 rd views) (hdj : ∀ b, G b ∨ b = jm → ¬ (F b ∨ b = jn)) (hR : Le R R') (hf : ∀ i, R' i ≠ none → R i ≠ none ∨ H i = none) (hl : Le R' H') (hw : Wide F H F') (ho : Off (fun b => F b ∨ b = jn) H H') :
    NetAt R' G tm H' jm s cv dv tv t2 rd views ∧ ∀ b, G b ∨ b = jm → ¬ (F' b ∨ b = jn) := by
  have hn : ∀ b, G b ∨ b = jm → R' b = none := fun b hb => by
    obtain ⟨k1, k2⟩ := hm.at_ b hb
    cases he : R' b with
    | none => rfl
    | some c =>
      rcases hf b (by rw [he]; simp) with e | e
      · exact absurd k2 e
      · exact absurd e k1
  refine ⟨hm.keep hR hl (fun b c hb hc => ho b c hc (hdj b hb)) (fun b hb => hn b (.inl hb)) (hn jm (.inr rfl)), fun b hb hF => ?_⟩
  rcases hF with hF | hF
  · rcases hw.2 b hF with e | e
    · exact hdj b hb (.inl e)
    · exact (hm.at_ b hb).1 e
  · exact hdj b hb (.inr hF)
theorem Pair.news (h : Pair R F G H jn jm s cv dv tv t1 t2 rd views) (hN : New H H' N) : Pair (hun R N) F G H' jn jm s cv dv tv t1 t2 rd views := ⟨h.n.news hN, h.m.news hN, h.dj⟩
theorem Pair.mono (h : Pair R F G H jn jm s cv dv tv t1 t2 rd views) (hl : Le H H') : Pair R F G H' jn jm s cv dv tv t1 t2 rd views := ⟨h.n.mono hl, h.m.mono hl, h.dj⟩
theorem Pair.framed (h : Pair R F G H jn jm s cv dv tv t1 t2 rd views) (hR : Le R R') (hl : Le R' H') (h3 : ∀ i c, H i = some c → R i = none → H' i = some c) (h4 : ∀ i, R' i ≠ none → R i ≠ none ∨ H i = none) : Pair R' F G H' jn jm s cv dv tv t1 t2 rd views ∧ Le H H' :=
  ⟨⟨(h.n.framed hR hl h3 h4).1, (h.m.framed hR hl h3 h4).1, h.dj⟩, (h.n.framed hR hl h3 h4).2⟩
end
end

section
open Go

structure Mv (R H : Heap) (F : Nat → Prop) (R' H' : Heap) (F' : Nat → Prop) : Prop where
  r : Le R R'
  le : Le R' H'
  rn : ∀ b, R' b ≠ none → R b ≠ none ∨ H b = none
  off : Off F H H'
  wide : Wide F H F'
  kn : ∀ b, F' b → H' b ≠ none
  fr : ∀ b, F' b → R' b = none
structure Lab (R H : Heap) (tg : Nat → Nat) : Prop where
  le : Le R H
  fr : ∀ b, tg b ≠ 0 → R b = none
  kn : ∀ b, tg b ≠ 0 → H b ≠ none
def Pt (tg : Nat → Nat) (i : Nat) : Nat → Prop := fun b => tg b = i
def Stays (tg tg' : Nat → Nat) (H H' : Heap) (j : Nat) : Prop := Pt tg' j = Pt tg j ∧ ∀ b c, tg b = j → H b = some c → H' b = some c
section
variable {R H R' H' R'' H'' : Heap} {F F' F'' : Nat → Prop} {tg : Nat → Nat} {i j : Nat}
theorem Mv.trans (h : Mv R H F R' H' F') (k : Mv R' H' F' R'' H'' F'') : Mv R H F R'' H'' F'' := by
  refine ⟨h.r.trans k.r, k.le, fun b hb => ?_, h.off.trans h.wide k.off, h.wide.trans h.off k.wide, k.kn, k.fr⟩
  rcases k.rn b hb with h1 | h1
  · exact h.rn b h1
  · by_cases e : H b = none
    · exact .inr e
    · refine .inl fun e2 => ?_
      cases hc : H b with
      | none => exact e hc
      | some c =>
        by_cases hF : F b
        · have := h.kn b (h.wide.1 b hF)
          exact this h1
        · rw [h.off b c hc hF] at h1
          cases h1
theorem Mv.refl (hl : Le R H) (hk : ∀ b, F b → H b ≠ none) (hf : ∀ b, F b → R b = none) : Mv R H F R H F := ⟨Le.refl _, hl, fun b h => .inl h, Off.refl _ _, Wide.refl _ _, hk, hf⟩
theorem Mv.news {N : Heap} (hl : Le R H) (hk : ∀ b, F b → H b ≠ none) (hf : ∀ b, F b → R b = none) (hN : New H H' N) : Mv R H F (hun R N) H' F :=
  ⟨qNZ _ _, hN.le hl, fun b hb => by
    by_cases e : R b = none
    · exact .inr (hN.2.2 b fun e2 => hb (hun_none.2 ⟨e, e2⟩))
    · exact .inl e, Off.of_le hN.1, Wide.refl _ _, fun b hb => hN.kn (hk b hb), fun b hb => hN.not (hf b hb) (hk b hb)⟩
theorem Lab.move (h : Lab R H tg) (hi : i ≠ 0) (m : Mv R H (Pt tg i) R' H' F') : ∃ tg', Lab R' H' tg' ∧ Pt tg' i = F' ∧ ∀ j, j ≠ 0 → j ≠ i → Stays tg tg' H H' j := by
  classical
  have hz : ∀ b, H b = none → tg b = 0 := fun b hb => by
    by_cases e : tg b = 0
    · exact e
    · exact absurd hb (h.kn b e)
  have hF : ∀ b, F' b → ∀ j, j ≠ 0 → j ≠ i → tg b ≠ j := fun b hb j h0 h1 e => by
    rcases m.wide.2 b hb with h2 | h2
    · exact h1 (e.symm.trans h2)
    · exact h0 (e.symm.trans (hz b h2))
  have key : ∀ b, (if F' b then i else tg b) ≠ 0 → F' b ∨ (tg b ≠ 0 ∧ tg b ≠ i) := fun b hb => by
    by_cases e : F' b
    · exact .inl e
    · rw [if_neg e] at hb
      exact .inr ⟨hb, fun e2 => e (m.wide.1 b e2)⟩
  have stay : ∀ b c, tg b ≠ i → H b = some c → H' b = some c := fun b c hb hc => m.off b c hc hb
  refine ⟨fun b => if F' b then i else tg b, ⟨m.le, fun b hb => ?_, fun b hb => ?_⟩, ?_, fun j h0 h1 => ⟨?_, fun b c hb hc => stay b c (by omega) hc⟩⟩
  · rcases key b hb with hb | ⟨h1, h2⟩
    · exact m.fr b hb
    · cases e : R' b with
      | none => rfl
      | some c =>
        rcases m.rn b (by rw [e]; simp) with h3 | h3
        · exact absurd (h.fr b h1) h3
        · exact absurd h3 (h.kn b h1)
  · rcases key b hb with hb | ⟨h1, h2⟩
    · exact m.kn b hb
    · cases e : H b with
      | none => exact absurd e (h.kn b h1)
      | some c => rw [stay b c h2 e]; simp
  · funext b
    refine propext ⟨fun e => ?_, fun e => ?_⟩
    · by_cases hb : F' b
      · exact hb
      · have e' : (if F' b then i else tg b) = i := e
        rw [if_neg hb] at e'
        exact m.wide.1 b e'
    · show (if F' b then i else tg b) = i
      rw [if_pos e]
  · funext b
    refine propext ⟨fun e => ?_, fun e => ?_⟩
    · have e' : (if F' b then i else tg b) = j := e
      by_cases hb : F' b
      · rw [if_pos hb] at e'
        exact absurd e'.symm h1
      · rwa [if_neg hb] at e'
    · show (if F' b then i else tg b) = j
      by_cases hb : F' b
      · exact absurd e (hF b hb j h0 h1)
      · rwa [if_neg hb]
theorem Lab.news {N : Heap} (h : Lab R H tg) (hN : New H H' N) : Lab (hun R N) H' tg := ⟨hN.le h.le, fun b hb => hN.not (h.fr b hb) (h.kn b hb), fun b hb => hN.kn (h.kn b hb)⟩
theorem Lab.mono (h : Lab R H tg) (hl : Le H H') : Lab R H' tg := ⟨h.le.trans hl, h.fr, fun b hb => by
  cases e : H b with
  | none => exact absurd e (h.kn b hb)
  | some c => rw [hl b c e]; simp⟩
theorem Lab.part (h : Lab R H tg) (hi : i ≠ 0) (hl : Le H H') (hn : ∀ b, ¬ Pt tg i b) (hF : ∀ b, F b → H b = none ∧ H' b ≠ none) : ∃ tg', Lab R H' tg' ∧ Pt tg' i = F ∧ ∀ j, j ≠ 0 → j ≠ i → Stays tg tg' H H' j := by
  have e : Pt tg i = fun _ => False := by funext b; exact propext ⟨fun x => hn b x, fun x => x.elim⟩
  refine h.move hi (F' := F) ?_
  rw [e]
  exact ⟨Le.refl _, h.le.trans hl, fun b hb => .inl hb, Off.of_le hl, ⟨fun b hb => hb.elim, fun b hb => .inr (hF b hb).1⟩, fun b hb => (hF b hb).2, fun b hb => none_le h.le (hF b hb).1⟩
theorem Lab.framed (h : Lab R H tg) (hR : Le R R') (hl : Le R' H') (h3 : ∀ i c, H i = some c → R i = none → H' i = some c) (h4 : ∀ i, R' i ≠ none → R i ≠ none ∨ H i = none) : Lab R' H' tg ∧ Le H H' := by
  have hle : Le H H' := fun b c hc => by
    cases e : R b with
    | none => exact h3 b c hc e
    | some d =>
      have := h.le b d e
      rw [hc] at this
      cases this
      exact hl b c (hR b c e)
  refine ⟨⟨hl, fun b hb => ?_, (h.mono hle).kn⟩, hle⟩
  cases e : R' b with
  | none => rfl
  | some c =>
    rcases h4 b (by rw [e]; simp) with h5 | h5
    · exact absurd (h.fr b hb) h5
    · exact absurd h5 (h.kn b hb)
theorem Lab.freeze {R H : Heap} {tg : Nat → Nat} {i : Nat} (h : Lab R H tg) (hi : i ≠ 0) : ∃ G tg', Lab G H tg' ∧ Le R G ∧ (∀ b c, tg b = i → H b = some c → G b = some c) ∧ (∀ b, G b ≠ none → R b ≠ none ∨ tg b = i) ∧ (∀ b, ¬ Pt tg' i b) ∧ ∀ j, j ≠ 0 → j ≠ i → Stays tg tg' H H j := by
  classical
  refine ⟨fun b => if tg b = i then H b else R b, fun b => if tg b = i then 0 else tg b, ⟨fun b c hb => ?_, fun b hb => ?_, fun b hb => ?_⟩, fun b c hb => ?_, fun b c hb hc => ?_, fun b hb => ?_, fun b e => ?_, fun j h0 h1 => ⟨?_, fun b c _ hc => hc⟩⟩
  · by_cases e : tg b = i
    · simpa [e] using hb
    · exact h.le b c (by simpa [e] using hb)
  · by_cases e : tg b = i
    · simp [e] at hb
    · have e2 : tg b ≠ 0 := by simpa [e] using hb
      simpa [e] using h.fr b e2
  · by_cases e : tg b = i
    · simp [e] at hb
    · exact h.kn b (by simpa [e] using hb)
  · have e : tg b ≠ i := fun e => by rw [h.fr b (by omega)] at hb; cases hb
    simpa [e] using hb
  · simpa [hb] using hc
  · by_cases e : tg b = i
    · exact .inr e
    · exact .inl (by simpa [e] using hb)
  · have e' : (if tg b = i then 0 else tg b) = i := e
    by_cases c : tg b = i
    · rw [if_pos c] at e'; exact hi e'.symm
    · rw [if_neg c] at e'; exact c e'
  · funext b
    refine propext ⟨fun e => ?_, fun e => ?_⟩
    · have e' : (if tg b = i then 0 else tg b) = j := e
      by_cases c : tg b = i
      · rw [if_pos c] at e'; exact absurd e'.symm h0
      · rwa [if_neg c] at e'
    · show (if tg b = i then 0 else tg b) = j
      have e' : tg b = j := e
      rw [if_neg (by omega)]
      exact e'
end
def NetB (R : Heap) (F : Nat → Prop) (tn : TypeId) (H : Heap) (jn : Nat) (s : Scn) (cv dv tv tp : Value) (rd : Int) (views : List (List Ev)) : Prop := ∃ F0, (∀ b, F b ↔ F0 b ∨ b = jn) ∧ NetAt R F0 tn H jn s cv dv tv tp rd views
section
variable {R H R' H' : Heap} {F F' : Nat → Prop} {tn : TypeId} {jn : Nat} {s : Scn} {cv dv tv tp ov : Value} {rd : Int} {views : List (List Ev)}
theorem NetB.keep (h : NetB R F tn H jn s cv dv tv tp rd views) (l1 : Le R R') (l2 : Le R' H') (k : ∀ b c, F b → H b = some c → H' b = some c) (fr : ∀ b, F b → R' b = none) : NetB R' F tn H' jn s cv dv tv tp rd views := by
  obtain ⟨F0, hF, hn⟩ := h
  exact ⟨F0, hF, hn.keep l1 l2 (fun b c hb hc => k b c ((hF b).2 hb) hc) (fun b hb => fr b ((hF b).2 (.inl hb))) (fr jn ((hF jn).2 (.inr rfl)))⟩
theorem NetB.own (h : NetB R F tn H jn s cv dv tv tp rd views) : F jn := by
  obtain ⟨F0, hF, hn⟩ := h
  exact (hF jn).2 (.inr rfl)
theorem Sent.mv {α : Type} {e : El α} {got : List α} {v : Value} (hF : ∀ b, F b ↔ F' b ∨ b = jn) (hn : NetAt R F' tn H jn s cv dv tv tp rd views) {rd' : Int} {views' : List (List Ev)} (h : Sent e R F' tn H jn s cv dv tv tp rd' views' got (.returned v) H') : ∃ R' F2, Mv R H F R' H' F2 ∧ NetB R' F2 tn H' jn s cv dv tv tp rd' views' ∧ Sl e R' v got := by
  obtain ⟨R2, F2, h1, h2, h3, h4, h5, h6⟩ := h
  refine ⟨R2, fun b => F2 b ∨ b = jn, ⟨h1, h3.le, h2, fun b c hb hc => h6 b c hb fun e => hc ((hF b).2 e), ⟨fun b hb => ?_, fun b hb => ?_⟩, fun b hb => (h3.at_ b hb).1, fun b hb => (h3.at_ b hb).2⟩, ⟨F2, fun b => Iff.rfl, h3⟩, h4⟩
  · rcases (hF b).1 hb with e | e
    · exact .inl (h5.1 b e)
    · exact .inr e
  · rcases hb with e | e
    · rcases h5.2 b e with e | e
      · exact .inl ((hF b).2 (.inl e))
      · exact .inr e
    · exact .inl ((hF b).2 (.inr e))
def Moved {α : Type} (e : El α) (R H : Heap) (F : Nat → Prop) (tn : TypeId) (jn : Nat) (s : Scn) (cv dv tv tp : Value) (rd : Int) (views : List (List Ev)) (got : List α) : Ending → Heap → Prop := Ret fun v H' => ∃ R' F', Mv R H F R' H' F' ∧ NetB R' F' tn H' jn s cv dv tv tp rd views ∧ Sl e R' v got
theorem send_part {out : List (List (List Int))} {B : Nat} (h : NetB R F 98 H jn s cv dv tv tp rd views) (hV : ScnV s) (ho : Sl (qXZ (qXZ (eInt .u64))) R ov out) (hm : MsgsM s.P s.N out) (hvl : (views.length : Int) = s.N) (hB : Few views B) (hB2 : B ≤ 900000) (hr0 : 0 ≤ rd) (hr1 : rd ≤ 1000000) :
    qVZ Tryd.prog 47 [qTZ jn, ov] H (Moved (qXZ (qXZ (eInt .u64))) R H F 98 jn s cv dv tv tp (rd + 1) (sendV rd (applyM s rd out s.devs.length) views.length views views.length) (recv (applyM s rd out s.devs.length) views.length)) := by
  obtain ⟨F0, hF, hn⟩ := h
  exact (send_spec hn hV ho hm hvl hB hB2 hr0 hr1).ret fun v H' hv => Sent.mv hF hn hv
theorem cast_part {out : List (List Int)} {B : Nat} (h : NetB R F 98 H jn s cv dv tv tp rd views) (hV : ScnV s) (ho : Sl (qXZ (eInt .u64)) R ov out) (hm : Msgs s.P s.N out) (hvl : (views.length : Int) = s.N) (hB : Few views B) (hB2 : B ≤ 900000) (hr0 : 0 ≤ rd) (hr1 : rd ≤ 1000000) :
    qVZ Tryd.prog 48 [qTZ jn, ov] H (Moved (qXZ (eInt .u64)) R H F 98 jn s cv dv tv tp (rd + 1) (castV rd (applyB s rd out s.devs.length) views.length views views.length) (applyB s rd out s.devs.length)) := by
  obtain ⟨F0, hF, hn⟩ := h
  exact (cast_spec hn hV ho hm hvl hB hB2 hr0 hr1).ret fun v H' hv => Sent.mv hF hn hv
end
def Grid {α : Type} (e : El α) (R : Heap) (F : Nat → Prop) (ei eo : TypeId) (H : Heap) (v : Value) (xss : List (List α)) : Prop := ∃ rows, Nest F 1 ei eo H v rows ∧ rows.length = xss.length ∧ ∀ (j : Nat) cs xs, rows[j]? = some cs → xss[j]? = some xs → Cs e R cs xs
section
variable {α : Type} {e : El α} {R H R' H' : Heap} {F : Nat → Prop} {ei eo : TypeId} {v : Value} {xss : List (List α)} {j : Nat}
theorem Grid.keep (h : Grid e R F ei eo H v xss) (l1 : Le R R') (k : ∀ b c, F b → H b = some c → H' b = some c) : Grid e R' F ei eo H' v xss := by
  obtain ⟨rows, h1, h2, h3⟩ := h
  exact ⟨rows, h1.keep k, h2, fun j cs xs hc hx => (h3 j cs xs hc hx).mono l1⟩
theorem Grid.len (h : Grid e R F ei eo H v xss) : vLen v = some (.int .i64 xss.length) := by
  obtain ⟨rows, h1, h2, h3⟩ := h
  rw [← h2]
  exact h1.len
theorem Grid.one (h : Grid e R F ei eo H v xss) : v.oneCell' = true := by
  obtain ⟨rows, h1, h2, h3⟩ := h
  exact h1.one
theorem Grid.new {n : Nat} (h : Grown H H' 1 eo v n (List.replicate n (.slice none 0 0))) : Grid e R (fun b => blkOf v = some b) ei eo H' v (List.replicate n []) := by
  refine ⟨List.replicate n [], Nest.new h, by simp, fun j cs xs hc hx => ?_⟩
  have hj : j < n := by simpa using (List.getElem?_eq_some_iff.1 hc).1
  rw [List.getElem?_replicate, if_pos hj] at hc hx
  cases hc
  cases hx
  exact Cs.nil _ _
theorem Grid.sl {K : Heap} (h : Grid e R F ei eo H v xss) (h0 : e.sz = 1) (hl : Le R K) (hK : ∀ b c, F b → H b = some c → K b = some c) : Sl (qXZ e) K v xss := by
  obtain ⟨rows, h1, h2, h3⟩ := h
  rw [← h0] at h1
  exact h1.sl (by omega) h2 h3 hl hK
theorem Grid.get (h : Grid e R F ei eo H v xss) (h0 : e.sz = 1) (hl : Le R H) (hj : j < xss.length) : ∃ pt u, p1Z 1 v (.int .i64 j) = some pt ∧ (∀ ti : TI, ti.agg = false → qWZ ti pt H = some u) ∧ Sl e H u (xss.getD j []) := by
  obtain ⟨rows, h1, h2, h3⟩ := h
  obtain ⟨pt, u, n, g1, g2, g3, g4⟩ := h1.get (j := j) (by omega)
  refine ⟨pt, u, g1, g2, ?_⟩
  have hjr : j < rows.length := by omega
  have er : rows.getD j [] = rows[j] := by simp [hjr]
  have ex : xss.getD j [] = xss[j] := by simp [hj]
  rw [er] at g3
  rw [ex]
  have hc := h3 j rows[j] xss[j] (List.getElem?_eq_getElem hjr) (List.getElem?_eq_getElem hj)
  rw [← h0] at g3
  exact hc.sl hl g3 (by omega)
theorem Grid.push {te : TI} {x : α} {w : Value} (h : Grid e R F ei eo H v xss) (h0 : e.sz = 1) (hl : Le R H) (hk : ∀ b, F b → H b ≠ none) (hf : ∀ b, F b → R b = none) (hne : ei ≠ eo) (hj : j < xss.length) (hz : te.zero.cells.size = 1) (hs : te.size = 1) (hby : te.bytes ≤ 24) (hx : e.rel R x [w]) (hw : w.cells.toList = [w]) (hw1 : w.oneCell' = true) (hlen : (xss.getD j []).length ≤ 1000000) :
    ∃ pt u, p1Z 1 v (.int .i64 j) = some pt ∧ (∀ ti : TI, ti.agg = false → qWZ ti pt H = some u) ∧ ∀ k : Value → Heap → Prop,
      (∀ u' H1 H2 F', Off F H H1 → p2Z ⟨1, 24, .slice none 0 0, .slice ei, 0⟩ pt u' H1 = some H2 → Mv R H F R H2 F' → Grid e R F' ei eo H2 v (xss.set j (xss.getD j [] ++ [x])) → k u' H1) →
      p3Z te ei 1 [((0, te.size), w)] H fun s H1 => p4Z te ei u s H1 k := by
  obtain ⟨rows, h1, h2, h3⟩ := h
  have hjr : j < rows.length := by omega
  have hc := h3 j rows[j] xss[j] (List.getElem?_eq_getElem hjr) (List.getElem?_eq_getElem hj)
  have er : rows.getD j [] = rows[j] := by simp [hjr]
  have ex : xss.getD j [] = xss[j] := by simp [hj]
  have hcl := hc.1
  rw [h0, Nat.mul_one] at hcl
  rw [ex] at hlen
  have hwc : w.cells.size = 1 := by
    have := congrArg List.length hw
    simpa using this
  rw [← hs] at h1
  obtain ⟨pt, u, g1, g2, g3⟩ := h1.push (x := w) hne hjr (by rw [hz, hs]) (by rw [hs]; exact hwc) (fun c hc => by rw [hw] at hc; rw [List.mem_singleton.1 hc]; exact hw1) (by omega) fun n hn => by
    rw [er, hs] at hn
    have : (n + 1) * te.bytes ≤ 1000001 * 24 := Nat.mul_le_mul (by omega) hby
    omega
  refine ⟨pt, u, g1, g2, fun k hk' => g3 k fun u' H1 H2 F' c1 c2 c3 c4 c5 c6 c7 _ => hk' u' H1 H2 F' c1 c2 ⟨Le.refl _, c7.le hl hf, fun b hb => .inl hb, c7, c6, fun b hb => c5 b hb (hk b), c6.none hf hl⟩ ⟨_, by rw [← hs]; exact c4, by simpa using h2, fun q cs xs hq hxq => ?_⟩⟩
  rw [er, hw] at hq
  rw [ex] at hxq
  by_cases e0 : j = q
  · subst e0
    rw [List.getElem?_set_self (by omega)] at hq hxq
    cases hq
    cases hxq
    exact hc.snoc hx
  · rw [List.getElem?_set_ne e0] at hq hxq
    exact h3 q cs xs hq hxq
end
def ePtr : El Nat where
  sz := 1
  rel _ q cs := cs = [qTZ q]
  len := by rintro H x cs rfl; rfl
  mono := by rintro H G x cs _ h; exact h
def TapB (R : Heap) (F : Nat → Prop) (tt : TypeId) (H : Heap) (tp : Value) (qs : List Nat) (ts : List (List Int × Nat)) : Prop := Sl ePtr R tp qs ∧ qs.length = ts.length ∧ qs.Nodup ∧ (∀ q ∈ qs, F q) ∧ ∀ (k : Nat) q t, qs[k]? = some q → ts[k]? = some t → ∃ wv, H q = some (.cells [wv, .int .i64 t.2] 2 tt true) ∧ Sl (eInt .u64) R wv t.1
section
variable {R H R' H' : Heap} {F : Nat → Prop} {tt : TypeId} {tp : Value} {qs : List Nat} {ts : List (List Int × Nat)} {i : Nat}
theorem TapB.keep (h : TapB R F tt H tp qs ts) (l1 : Le R R') (k : ∀ b c, F b → H b = some c → H' b = some c) : TapB R' F tt H' tp qs ts := by
  obtain ⟨h1, h2, h3, h4, h5⟩ := h
  refine ⟨h1.mono l1, h2, h3, h4, fun i q t hq ht => ?_⟩
  obtain ⟨wv, a1, a2⟩ := h5 i q t hq ht
  exact ⟨wv, k q _ (h4 q (List.mem_of_getElem? hq)) a1, a2.mono l1⟩
theorem TapB.get (h : TapB R F tt H tp qs ts) (hi : i < ts.length) : ∃ q wv, qs[i]? = some q ∧ F q ∧ H q = some (.cells [wv, .int .i64 ts[i].2] 2 tt true) ∧ Sl (eInt .u64) R wv ts[i].1 := by
  obtain ⟨h1, h2, h3, h4, h5⟩ := h
  have hq : qs[i]? = some (qs[i]'(by omega)) := List.getElem?_eq_getElem _
  obtain ⟨wv, a1, a2⟩ := h5 i _ _ hq (List.getElem?_eq_getElem hi)
  exact ⟨_, wv, hq, h4 _ (List.mem_of_getElem? hq), a1, a2⟩
end
end

section
open Go

section
variable {F : Nat → Prop} {ei eo : TypeId} {H H1 : Heap} {v w : Value} {rows : List (List Value)} {cs' : List Value} {i j n : Nat}
theorem Nest.setRow (h : Nest F 1 ei eo H v rows) (hk : ∀ b, F b → H b ≠ none) (hne : ei ≠ eo) (hj : j < rows.length) (hw : Own 1 ei H1 w n cs') (hl : Le H H1) (hn : ∀ b, blkOf w = some b → H b = none) :
    ∃ pt H2, p1Z 1 v (.int .i64 j) = some pt ∧ p2Z ⟨1, 24, .slice none 0 0, .slice ei, 0⟩ pt w H1 = some H2 ∧ Nest (fun b => F b ∨ blkOf w = some b) 1 ei eo H2 v (rows.set j cs') ∧ Off F H1 H2 ∧ ∀ b, H1 b ≠ none → H2 b ≠ none := by
  obtain ⟨us, h1, h2, h3, h4, h5, h6⟩ := h
  have hju : j < us.length := by omega
  rcases h2 with ⟨_, e0, _⟩ | ⟨jo, capo, rfl, o1, o2, o3, o4⟩
  · omega
  have o3' := hl _ _ o3
  have ow : w.oneCell' = true := by rcases hw with ⟨rfl, _⟩ | ⟨_, _, rfl, _⟩ <;> rfl
  have hst : p2Z ⟨1, 24, .slice none 0 0, .slice ei, 0⟩ (.pointer (some ⟨jo, j, none⟩)) w H1 = some (hins H1 jo (.cells (us.set j w) (capo * 1) eo true)) := by
    simp only [p2Z, o3', stCells]
    rw [if_neg (by simp [TI.agg]), if_pos ⟨by trivial, ow, by omega⟩]
    rfl
  have hnb : ∀ b, blkOf w = some b → b ≠ jo := fun b hb e => by
    subst e
    rw [hn b hb] at o3
    cases o3
  have hub : ∀ (k : Nat) u b, us[k]? = some u → blkOf u = some b → b ≠ jo := fun k u b hu hb e => by
    subst e
    have hkr : k < rows.length := by
      have := (List.getElem?_eq_some_iff.1 hu).1
      omega
    obtain ⟨m, ho⟩ := h3 k u rows[k] hu (List.getElem?_eq_getElem hkr)
    obtain ⟨_, _, e2⟩ := ho.at_ hb
    rw [o3] at e2
    cases e2
    exact hne rfl
  refine ⟨.pointer (some ⟨jo, j, none⟩), _, ?_, hst, ⟨us.set j w, by simpa using h1, .inr ⟨jo, capo, by simp, by simpa using o1, o2, hins_self _ _ _, by simpa using o4⟩, fun k u cs hu hc => ?_, fun b hb => .inl (h4 b hb), fun k u b hu hb => ?_, fun i k u x b hik hu hx hb => ?_⟩, fun b c hb hF => ?_, fun b hb => ?_⟩
  · simp only [p1Z]
    rw [if_pos (by omega)]
    simp
  · by_cases e : j = k
    · subst e
      rw [List.getElem?_set_self (by omega)] at hu hc
      cases hu
      cases hc
      exact ⟨n, hw.mono fun b hb => qOZ _ _ (hnb b hb)⟩
    · rw [List.getElem?_set_ne e] at hu hc
      obtain ⟨m, ho⟩ := h3 k u cs hu hc
      refine ⟨m, ho.mono fun b hb => ?_⟩
      obtain ⟨_, _, e2⟩ := ho.at_ hb
      rw [qOZ _ _ (hub k u b hu hb), e2, hl _ _ e2]
  · by_cases e : j = k
    · subst e
      rw [List.getElem?_set_self (by omega)] at hu
      cases hu
      exact .inr hb
    · rw [List.getElem?_set_ne e] at hu
      exact .inl (h5 k u b hu hb)
  · have key : ∀ (k : Nat) u b, us[k]? = some u → blkOf u = some b → blkOf w ≠ some b := fun k u b hu hb e => hk b (h5 k u b hu hb) (hn b e)
    by_cases e : j = i
    · subst e
      rw [List.getElem?_set_self (by omega)] at hu
      rw [List.getElem?_set_ne hik] at hx
      cases hu
      exact fun e2 => key k x b hx e2 hb
    · rw [List.getElem?_set_ne e] at hu
      by_cases e3 : j = k
      · subst e3
        rw [List.getElem?_set_self (by omega)] at hx
        cases hx
        exact key i u b hu hb
      · rw [List.getElem?_set_ne e3] at hx
        exact h6 i k u x b hik hu hx hb
  · rw [qOZ _ _ (fun e => by subst e; exact hF (h4 _ rfl))]
    exact hb
  · by_cases e : b = jo
    · subst e; rw [hins_self]; simp
    · rw [qOZ _ _ e]; exact hb
theorem Nest.setCell (h : Nest F 1 ei eo H v rows) (hne : ei ≠ eo) (hi : i < rows.length) (hj : j < (rows.getD i []).length) :
    ∃ pt u pt2, p1Z 1 v (.int .i64 i) = some pt ∧ (∀ ti : TI, ti.agg = false → qWZ ti pt H = some u) ∧ p1Z 1 u (.int .i64 j) = some pt2 ∧
      ∀ (ti : TI) (y : Value), ti.agg = false → ti.size = 1 → y.oneCell' = true → ∃ H2, p2Z ti pt2 y H = some H2 ∧ Nest F 1 ei eo H2 v (rows.set i ((rows.getD i []).set j y)) ∧ Off F H H2 ∧ (∀ b, H b ≠ none → H2 b ≠ none) ∧
        ∀ (k : Nat) pk uk, p1Z 1 v (.int .i64 k) = some pk → k < rows.length → (∀ ti : TI, ti.agg = false → qWZ ti pk H = some uk) → ∀ ti : TI, ti.agg = false → qWZ ti pk H2 = some uk := by
  obtain ⟨us, h1, h2, h3, h4, h5, h6⟩ := h
  have hiu : i < us.length := by omega
  have er : rows.getD i [] = rows[i] := by simp [hi]
  rw [er] at hj ⊢
  rcases h2 with ⟨_, e0, _⟩ | ⟨jo, capo, rfl, o1, o2, o3, o4⟩
  · omega
  obtain ⟨m, ho⟩ := h3 i us[i] rows[i] (List.getElem?_eq_getElem hiu) (List.getElem?_eq_getElem hi)
  have hol := ho.length
  have hpt : ∀ k : Nat, k < rows.length → p1Z 1 (.slice (some ⟨jo, 0, none⟩) rows.length capo) (.int .i64 k) = some (.pointer (some ⟨jo, k, none⟩)) := fun k hk => by
    simp only [p1Z]
    rw [if_pos (by omega)]
    simp
  rcases ho with ⟨_, _, e⟩ | ⟨jr, capr, hu, r1, r2, r3, r4⟩
  · rw [e] at hj; simp at hj
  have hjo : jo ≠ jr := fun e => by
    subst e
    rw [o3] at r3
    exact hne (Blk.cells.inj (Option.some.inj r3)).2.2.1.symm
  have hFr : F jr := h5 i us[i] jr (List.getElem?_eq_getElem hiu) (by rw [hu]; rfl)
  refine ⟨_, us[i], .pointer (some ⟨jr, j, none⟩), hpt i hi, fun ti ht => ?_, ?_, fun ti y ht hs hy => ⟨hins H jr (.cells (rows[i].set j y) (capr * 1) ei true), ?_, ⟨us, by simpa using h1, .inr ⟨jo, capo, by simp, by simpa using o1, o2, ?_, by simpa using o4⟩, fun k u cs hk hc => ?_, h4, h5, h6⟩, fun b c hb hF => ?_, fun b hb => ?_, fun k pk uk hp hkr hld ti ht => ?_⟩⟩
  · simp only [qWZ, o3, ht, Bool.false_eq_true, if_false]
    exact List.getElem?_eq_getElem hiu
  · rw [hu]
    simp only [p1Z]
    rw [if_pos (by omega)]
    simp
  · simp only [p2Z, r3, stCells, ht, Bool.false_eq_true, if_false]
    rw [if_pos ⟨hs, hy, hj⟩]
    rfl
  · rw [qOZ _ _ hjo]
    exact o3
  · by_cases e : i = k
    · subst e
      rw [List.getElem?_set_self hi] at hc
      rw [List.getElem?_eq_getElem hiu] at hk
      cases hc
      cases hk
      exact ⟨m, .inr ⟨jr, capr, hu, r1, r2, hins_self _ _ _, by simpa using r4⟩⟩
    · rw [List.getElem?_set_ne e] at hc
      obtain ⟨m', ho'⟩ := h3 k u cs hk hc
      refine ⟨m', ho'.mono fun b hb => qOZ _ _ fun e2 => ?_⟩
      subst e2
      exact h6 i k us[i] u _ e (List.getElem?_eq_getElem hiu) hk (by rw [hu]; rfl) hb
  · rw [qOZ _ _ (fun e => by subst e; exact hF hFr)]
    exact hb
  · by_cases e : b = jr
    · subst e; rw [hins_self]; simp
    · rw [qOZ _ _ e]; exact hb
  · have hk' : k < us.length := by omega
    rw [hpt k hkr] at hp
    cases hp
    have := hld ti ht
    simp only [qWZ, o3, ht, Bool.false_eq_true, if_false] at this
    simp only [qWZ, qOZ _ _ hjo, o3, ht, Bool.false_eq_true, if_false]
    exact this
end
def vals (m : List (List Int)) : List (List Value) := m.map fun r => r.map (.int .u64)
theorem vals_getD (m : List (List Int)) (i : Nat) : (vals m).getD i [] = (m.getD i []).map (.int .u64) := by
  simp only [vals, List.getD_eq_getElem?_getD, List.getElem?_map]
  cases m[i]? <;> rfl
theorem vals_set (m : List (List Int)) (i : Nat) (r : List Int) : (vals m).set i (r.map (.int .u64)) = vals (m.set i r) := by simp [vals, List.map_set]
theorem vals_len (m : List (List Int)) : (vals m).length = m.length := by simp [vals]
structure MAt (G K : Heap) (v : Value) (m : List (List Int)) : Prop where
  le : Le G K
  nest : ∃ F, Nest F 1 22 52 K v (vals m) ∧ (∀ b, F b → G b = none) ∧ ∀ b, F b → K b ≠ none
section
variable {G K : Heap} {v : Value} {m : List (List Int)}
theorem MAt.len (h : MAt G K v m) : vLen v = some (.int .i64 m.length) := by
  obtain ⟨F, h1, _⟩ := h.nest
  rw [← vals_len m]
  exact h1.len
theorem MAt.make {H : Heap} {n : Nat} {k : Value → Heap → Prop} (hn : n ≤ 1000000) (hk : ∀ v H', MAt H H' v (List.replicate n []) → k v H') : oMake ty52 52 (.int .i64 n) (.int .i64 n) H k := by
  refine oMake_own (te := ty52) rfl (by show 24 * n ≤ _; omega) (by omega) fun w H2 hg => hk w H2 ⟨hg.1, fun b => blkOf w = some b, ?_, hg.2.2, fun b hb => ?_⟩
  · rw [zerosL_one rfl] at hg
    have e : vals (List.replicate n []) = List.replicate n [] := by simp [vals]
    rw [e]
    exact Nest.new hg
  · obtain ⟨_, _, e⟩ := hg.2.1.at_ hb
    rw [e]; simp
theorem MAt.setRow {i : Nat} {w : Value} {r : List Int} {K1 : Heap} (h : MAt G K v m) (hi : i < m.length) (hw : GI K K1 w r) : ∃ pt K2, p1Z 1 v (.int .i64 i) = some pt ∧ p2Z ty52 pt w K1 = some K2 ∧ MAt G K2 v (m.set i r) := by
  obtain ⟨F, h1, h2, h3⟩ := h.nest
  obtain ⟨pt, K2, a1, a2, a3, a4, a5⟩ := h1.setRow (j := i) h3 (by decide) (by rw [vals_len]; exact hi) hw.2.1 hw.1 hw.2.2
  rw [vals_set] at a3
  refine ⟨pt, K2, a1, a2, fun b c hb => ?_, _, a3, fun b hb => ?_, fun b hb => ?_⟩
  · exact a4 b c (hw.1 _ _ (h.le b c hb)) fun hF => by rw [h2 b hF] at hb; cases hb
  · rcases hb with hb | hb
    · exact h2 b hb
    · exact none_le h.le (hw.2.2 b hb)
  · rcases hb with hb | hb
    · refine a5 b ?_
      cases e : K b with
      | none => exact absurd e (h3 b hb)
      | some c => rw [hw.1 b c e]; simp
    · obtain ⟨_, _, e⟩ := hw.2.1.at_ hb
      exact a5 b (by rw [e]; simp)
def setc (m : List (List Int)) (i j : Nat) (y : Int) : List (List Int) := m.set i ((m.getD i []).set j y)
theorem MAt.cell {i j : Nat} (h : MAt G K v m) (hi : i < m.length) (hj : j < (m.getD i []).length) :
    ∃ pt u pt2, p1Z 1 v (.int .i64 i) = some pt ∧ qWZ ty52 pt K = some u ∧ p1Z 1 u (.int .i64 j) = some pt2 ∧
      ∀ y : Int, ∃ K2, p2Z ty22 pt2 (.int .u64 y) K = some K2 ∧ MAt G K2 v (setc m i j y) ∧ ∀ (k : Nat) pk uk, p1Z 1 v (.int .i64 k) = some pk → k < m.length → qWZ ty52 pk K = some uk → qWZ ty52 pk K2 = some uk := by
  obtain ⟨F, h1, h2, h3⟩ := h.nest
  obtain ⟨pt, u, pt2, a1, a2, a3, a4⟩ := h1.setCell (i := i) (j := j) (by decide) (by rw [vals_len]; exact hi) (by rw [vals_getD, List.length_map]; exact hj)
  refine ⟨pt, u, pt2, a1, a2 _ rfl, a3, fun y => ?_⟩
  obtain ⟨K2, b1, b2, b3, b4, b5⟩ := a4 ty22 (.int .u64 y) rfl rfl rfl
  rw [vals_getD, ← List.map_set, vals_set] at b2
  refine ⟨K2, b1, ⟨fun b c hb => b3 b c (h.le b c hb) fun hF => (by rw [h2 b hF] at hb; cases hb), F, b2, h2, fun b hb => b4 b (h3 b hb)⟩, fun k pk uk hp hk hld => ?_⟩
  obtain ⟨pt', u', _, c1, c2, _⟩ := h1.get (j := k) (by rw [vals_len]; exact hk)
  rw [c1] at hp
  cases hp
  have e := c2 ty52 rfl
  rw [hld] at e
  cases e
  exact b5 k _ _ c1 (by rw [vals_len]; exact hk) c2 _ rfl
theorem MAt.made (h : MAt G K v m) : ∃ N, New G K N ∧ Sl (qXZ (eInt .u64)) N v m := by
  obtain ⟨F, h1, h2, h3⟩ := h.nest
  refine ⟨hres K F, ⟨h.le, hres_le K F, fun b hb => ?_⟩, h1.sl (e := eInt .u64) (R := fun _ => none) (by decide) (vals_len m) (fun j cs xs hc hx => ?_) (fun b c hb => by cases hb) fun b c hF hb => by rw [hres_in hF]; exact hb⟩
  · by_cases hF : F b
    · exact h2 b hF
    · rw [hres_out hF] at hb; exact absurd rfl hb
  · simp only [vals, List.getElem?_map, hx, Option.map_some] at hc
    cases hc
    refine ⟨by rw [List.length_map]; exact (Nat.mul_one _).symm, fun i x hi => one_get _ i (.int .u64 x) (by rw [List.getElem?_map, hi]; rfl)⟩
end
end

section
open Go

structure Shape (n : Nat) (m : List (List Int)) : Prop where
  len : m.length = n
  rows : ∀ i, i < n → (m.getD i []).length = n
theorem setc_len (m : List (List Int)) (i j : Nat) (y : Int) : (setc m i j y).length = m.length := by simp [setc]
theorem Shape.setc {n : Nat} {m : List (List Int)} (h : Shape n m) (i j : Nat) (y : Int) : Shape n (SL.setc m i j y) := by
  refine ⟨by rw [setc_len]; exact h.len, fun k hk => ?_⟩
  have hl := h.len
  unfold SL.setc
  by_cases e : i = k
  · subst e
    rw [List.getD_eq_getElem?_getD, List.getElem?_set_self (by omega)]
    simp only [Option.getD_some, List.length_set]
    exact h.rows i hk
  · rw [List.getD_eq_getElem?_getD, List.getElem?_set_ne e, ← List.getD_eq_getElem?_getD]
    exact h.rows k hk
section
variable {G H K : Heap} {v fv rv : Value} {m : List (List Int)} {n i j : Nat} {first rest : List Int}
theorem MAt.two (h : MAt G K v m) (hs : Shape n m) (hi : i < n) (hj : j < n) (x : Int) :
    ∃ p1 u1 p2 u2 q1 K2 q2 K3, p1Z 1 v (.int .i64 i) = some p1 ∧ qWZ ty52 p1 K = some u1 ∧ p1Z 1 v (.int .i64 j) = some p2 ∧ qWZ ty52 p2 K = some u2 ∧ p1Z 1 u1 (.int .i64 j) = some q1 ∧ p2Z ty22 q1 (.int .u64 x) K = some K2 ∧ p1Z 1 u2 (.int .i64 i) = some q2 ∧ p2Z ty22 q2 (.int .u64 x) K2 = some K3 ∧ MAt G K3 v (setc (setc m i j x) j i x) := by
  have hl := hs.len
  obtain ⟨p1, u1, q1, a1, a2, a3, a4⟩ := h.cell (i := i) (j := j) (by omega) (by rw [hs.rows i hi]; exact hj)
  obtain ⟨K2, b1, b2, b3⟩ := a4 x
  obtain ⟨p2, u2, _, c1, c2, _, _⟩ := h.cell (i := j) (j := i) (by omega) (by rw [hs.rows j hj]; exact hi)
  obtain ⟨p3, u3, q3, d1, d2, d3, d4⟩ := b2.cell (i := j) (j := i) (by rw [setc_len]; omega) (by rw [(hs.setc i j x).rows j hj]; exact hi)
  rw [c1] at d1
  cases d1
  have e := b3 j p2 u2 c1 (by omega) c2
  rw [d2] at e
  cases e
  obtain ⟨K3, e1, e2, _⟩ := d4 x
  exact ⟨p1, u1, p2, u2, q1, K2, q3, K3, a1, a2, c1, c2, a3, b1, d3, e1, e2⟩
theorem new_rows {x0 x1 : Value} {kn : Value → Value → Value → Value → Heap → Prop} {Q : Ending → Heap → Prop} (hn : n ≤ 1000) (hk : ∀ K, MAt G K v (List.replicate n (List.replicate n 0)) → kn x0 x1 (.int .i64 n) v K) :
    ∀ (d i : Nat) (K : Heap), n - i = d → i ≤ n → MAt G K v ((List.replicate n (List.replicate n 0)).take i ++ (List.replicate n ([] : List Int)).drop i) → L124_16 x0 x1 (.int .i64 n) v (.int .i64 n) (.int .i64 i) K kn Q := by
  have hAB : (List.replicate n (List.replicate n (0 : Int))).length = (List.replicate n ([] : List Int)).length := by simp
  intro d
  induction d with
  | zero =>
    intro i K hd hi h
    apply L124_16_round
    unfold m124_17
    (repeat (first | refine qQZ (qDZ _) ?_ | refine qQZ (qEZ _) ?_ | refine qQZ (qFZ _ _) ?_ | refine qQZ (qGZ _ _) ?_ | refine qQZ (by (try with_reducible first | refine gV_F ?_ | refine gV_T ?_); first | exact q1Z _ _ | exact q2Z _ _ _ | exact q3Z _ | exact q4Z _ | exact q5Z _ _ _ | exact q6Z _ _ _ | exact q7Z _ _ _ | exact q8Z _ _ _ | exact q9Z _ _ _ | exact q0Z _ _ _ | exact qHZ (by omega) (by omega) | exact qIZ (by omega) (by omega) | exact qAZ _ | exact qBZ _ _ _ | exact qCZ _ _ _) ?_ | refine qQZ (gV_F rfl) ?_ | refine qQZ (gV_T rfl) ?_))
    refine qJZ (fun hlt => absurd hlt (by omega)) (fun _ => hk K ?_)
    rw [List.take_of_length_le (by simp; omega), List.drop_of_length_le (by simp; omega), List.append_nil] at h
    exact h
  | succ d ih =>
    intro i K hd hi h
    apply L124_16_round
    unfold m124_17
    (repeat (first | refine qQZ (qDZ _) ?_ | refine qQZ (qEZ _) ?_ | refine qQZ (qFZ _ _) ?_ | refine qQZ (qGZ _ _) ?_ | refine qQZ (by (try with_reducible first | refine gV_F ?_ | refine gV_T ?_); first | exact q1Z _ _ | exact q2Z _ _ _ | exact q3Z _ | exact q4Z _ | exact q5Z _ _ _ | exact q6Z _ _ _ | exact q7Z _ _ _ | exact q8Z _ _ _ | exact q9Z _ _ _ | exact q0Z _ _ _ | exact qHZ (by omega) (by omega) | exact qIZ (by omega) (by omega) | exact qAZ _ | exact qBZ _ _ _ | exact qCZ _ _ _) ?_ | refine qQZ (gV_F rfl) ?_ | refine qQZ (gV_T rfl) ?_))
    refine qJZ (fun hlt => ?_) (fun hlt => absurd (by omega) hlt)
    refine GI.make (by omega) fun w K1 hw => ?_
    obtain ⟨pt, K2, a1, a2, a3⟩ := h.setRow (i := i) (by rw [mix_len hAB (by simp; omega)]; simp; omega) hw
    (repeat (first | refine qQZ (qDZ _) ?_ | refine qQZ (qEZ _) ?_ | refine qQZ (qFZ _ _) ?_ | refine qQZ (qGZ _ _) ?_ | refine qQZ (by (try with_reducible first | refine gV_F ?_ | refine gV_T ?_); first | exact a1 | exact q1Z _ _ | exact q2Z _ _ _ | exact q3Z _ | exact q4Z _ | exact q5Z _ _ _ | exact q6Z _ _ _ | exact q7Z _ _ _ | exact q8Z _ _ _ | exact q9Z _ _ _ | exact q0Z _ _ _ | exact qHZ (by omega) (by omega) | exact qIZ (by omega) (by omega) | exact qAZ _ | exact qBZ _ _ _ | exact qCZ _ _ _) ?_ | refine qQZ (gV_F rfl) ?_ | refine qQZ (gV_T rfl) ?_))
    refine p8Z a2 ?_
    (repeat (first | refine qQZ (qDZ _) ?_ | refine qQZ (qEZ _) ?_ | refine qQZ (qFZ _ _) ?_ | refine qQZ (qGZ _ _) ?_ | refine qQZ (by (try with_reducible first | refine gV_F ?_ | refine gV_T ?_); first | exact q1Z _ _ | exact q2Z _ _ _ | exact q3Z _ | exact q4Z _ | exact q5Z _ _ _ | exact q6Z _ _ _ | exact q7Z _ _ _ | exact q8Z _ _ _ | exact q9Z _ _ _ | exact q0Z _ _ _ | exact qHZ (by omega) (by omega) | exact qIZ (by omega) (by omega) | exact qAZ _ | exact qBZ _ _ _ | exact qCZ _ _ _) ?_ | refine qQZ (gV_F rfl) ?_ | refine qQZ (gV_T rfl) ?_))
    refine ih (i + 1) K2 (by omega) (by omega) ?_
    have e := mix_set hAB (j := i) (by simp; omega)
    rw [show (List.replicate n (List.replicate n (0 : Int)))[i]'(by simp; omega) = List.replicate n 0 by simp] at e
    rw [e] at a3
    exact a3
def firstGo (first : List Int) (m : List (List Int)) : Nat → List (List Int)
  | 0 => m
  | j + 1 => setc (setc (firstGo first m j) 0 j (first.getD j 0)) j 0 (first.getD j 0)
theorem firstGo_shape (hs : Shape n m) : ∀ j, Shape n (firstGo first m j)
  | 0 => hs
  | j + 1 => ((firstGo_shape hs j).setc _ _ _).setc _ _ _
theorem new_first (hf : Sl (eInt .u64) G fv first) (hs : Shape n m) (hn : first.length = n) (h0 : 0 < n) {x1 x6 : Value} {kn : Value → Value → Value → Heap → Prop} {Q : Ending → Heap → Prop} (hk : ∀ K, MAt G K v (firstGo first m n) → kn x1 x6 v K) :
    ∀ (d j : Nat) (K : Heap), n - j = d → j ≤ n → MAt G K v (firstGo first m j) → L124_13 x1 x6 v fv (.int .i64 n) (.int .i64 j) K kn Q := by
  have hmx := hf.max
  intro d
  induction d with
  | zero =>
    intro j K hd hj h
    apply L124_13_round
    unfold m124_14
    (repeat (first | refine qQZ (qDZ _) ?_ | refine qQZ (qEZ _) ?_ | refine qQZ (qFZ _ _) ?_ | refine qQZ (qGZ _ _) ?_ | refine qQZ (by (try with_reducible first | refine gV_F ?_ | refine gV_T ?_); first | exact q1Z _ _ | exact q2Z _ _ _ | exact q3Z _ | exact q4Z _ | exact q5Z _ _ _ | exact q6Z _ _ _ | exact q7Z _ _ _ | exact q8Z _ _ _ | exact q9Z _ _ _ | exact q0Z _ _ _ | exact qHZ (by omega) (by omega) | exact qIZ (by omega) (by omega) | exact qAZ _ | exact qBZ _ _ _ | exact qCZ _ _ _) ?_ | refine qQZ (gV_F rfl) ?_ | refine qQZ (gV_T rfl) ?_))
    refine qJZ (fun hlt => absurd hlt (by omega)) (fun _ => hk K ?_)
    have e : j = n := by omega
    subst e
    exact h
  | succ d ih =>
    intro j K hd hj h
    apply L124_13_round
    unfold m124_14
    (repeat (first | refine qQZ (qDZ _) ?_ | refine qQZ (qEZ _) ?_ | refine qQZ (qFZ _ _) ?_ | refine qQZ (qGZ _ _) ?_ | refine qQZ (by (try with_reducible first | refine gV_F ?_ | refine gV_T ?_); first | exact q1Z _ _ | exact q2Z _ _ _ | exact q3Z _ | exact q4Z _ | exact q5Z _ _ _ | exact q6Z _ _ _ | exact q7Z _ _ _ | exact q8Z _ _ _ | exact q9Z _ _ _ | exact q0Z _ _ _ | exact qHZ (by omega) (by omega) | exact qIZ (by omega) (by omega) | exact qAZ _ | exact qBZ _ _ _ | exact qCZ _ _ _) ?_ | refine qQZ (gV_F rfl) ?_ | refine qQZ (gV_T rfl) ?_))
    refine qJZ (fun hlt => ?_) (fun hlt => absurd (by omega) hlt)
    have hjl : j < first.length := by omega
    obtain ⟨pf, f1, f2⟩ := hf.word hjl (ti := ty22) rfl
    have ef : first.getD j 0 = first[j] := by simp [hjl]
    obtain ⟨p1, u1, p2, u2, q1, K2, q2, K3, a1, a2, a3, a4, a5, a6, a7, a8, a9⟩ := h.two (firstGo_shape hs j) (i := 0) (j := j) h0 (by omega) first[j]
    (repeat (first | refine qQZ (qDZ _) ?_ | refine qQZ (qEZ _) ?_ | refine qQZ (qFZ _ _) ?_ | refine qQZ (qGZ _ _) ?_ | refine qQZ (by (try with_reducible first | refine gV_F ?_ | refine gV_T ?_); first | exact f1 | exact qKZ h.le f2 | exact a1 | exact a2 | exact a3 | exact a4 | exact a5 | exact q1Z _ _ | exact q2Z _ _ _ | exact q3Z _ | exact q4Z _ | exact q5Z _ _ _ | exact q6Z _ _ _ | exact q7Z _ _ _ | exact q8Z _ _ _ | exact q9Z _ _ _ | exact q0Z _ _ _ | exact qHZ (by omega) (by omega) | exact qIZ (by omega) (by omega) | exact qAZ _ | exact qBZ _ _ _ | exact qCZ _ _ _) ?_ | refine qQZ (gV_F rfl) ?_ | refine qQZ (gV_T rfl) ?_))
    refine p8Z a6 ?_
    (repeat (first | refine qQZ (qDZ _) ?_ | refine qQZ (qEZ _) ?_ | refine qQZ (qFZ _ _) ?_ | refine qQZ (qGZ _ _) ?_ | refine qQZ (by (try with_reducible first | refine gV_F ?_ | refine gV_T ?_); first | exact a7 | exact q1Z _ _ | exact q2Z _ _ _ | exact q3Z _ | exact q4Z _ | exact q5Z _ _ _ | exact q6Z _ _ _ | exact q7Z _ _ _ | exact q8Z _ _ _ | exact q9Z _ _ _ | exact q0Z _ _ _ | exact qHZ (by omega) (by omega) | exact qIZ (by omega) (by omega) | exact qAZ _ | exact qBZ _ _ _ | exact qCZ _ _ _) ?_ | refine qQZ (gV_F rfl) ?_ | refine qQZ (gV_T rfl) ?_))
    refine p8Z a8 ?_
    (repeat (first | refine qQZ (qDZ _) ?_ | refine qQZ (qEZ _) ?_ | refine qQZ (qFZ _ _) ?_ | refine qQZ (qGZ _ _) ?_ | refine qQZ (by (try with_reducible first | refine gV_F ?_ | refine gV_T ?_); first | exact q1Z _ _ | exact q2Z _ _ _ | exact q3Z _ | exact q4Z _ | exact q5Z _ _ _ | exact q6Z _ _ _ | exact q7Z _ _ _ | exact q8Z _ _ _ | exact q9Z _ _ _ | exact q0Z _ _ _ | exact qHZ (by omega) (by omega) | exact qIZ (by omega) (by omega) | exact qAZ _ | exact qBZ _ _ _ | exact qCZ _ _ _) ?_ | refine qQZ (gV_F rfl) ?_ | refine qQZ (gV_T rfl) ?_))
    refine ih (j + 1) K3 (by omega) (by omega) ?_
    rw [firstGo, ef]
    exact a9
theorem new_one {rest : List Int} {x : Int} (hr : Sl (eInt .u64) G rv (x :: rest)) (h : MAt G K v m) (hs : Shape n m) (hi : i < n) (hj : j < n) (hn : n ≤ 1000) {kn kx5 : Value → Value → Value → Value → Heap → Prop} {kx4 : Value → Heap → Prop} {Q : Ending → Heap → Prop}
    (hk : ∀ rv' K', Sl (eInt .u64) G rv' rest → MAt G K' v (setc (setc m i j x) j i x) → L124_10 rv' (.int .i64 n) v (.int .i64 i) (.int .i64 ((j : Int) + 1)) K' kn kx5 kx4 Q) :
    L124_10 rv (.int .i64 n) v (.int .i64 i) (.int .i64 j) K kn kx5 kx4 Q := by
  apply L124_10_round
  unfold m124_11
  (repeat (first | refine qQZ (qDZ _) ?_ | refine qQZ (qEZ _) ?_ | refine qQZ (qFZ _ _) ?_ | refine qQZ (qGZ _ _) ?_ | refine qQZ (by (try with_reducible first | refine gV_F ?_ | refine gV_T ?_); first | exact q1Z _ _ | exact q2Z _ _ _ | exact q3Z _ | exact q4Z _ | exact q5Z _ _ _ | exact q6Z _ _ _ | exact q7Z _ _ _ | exact q8Z _ _ _ | exact q9Z _ _ _ | exact q0Z _ _ _ | exact qHZ (by omega) (by omega) | exact qIZ (by omega) (by omega) | exact qAZ _ | exact qBZ _ _ _ | exact qCZ _ _ _) ?_ | refine qQZ (gV_F rfl) ?_ | refine qQZ (gV_T rfl) ?_))
  refine qJZ (fun hlt => ?_) (fun hlt => absurd (by omega) hlt)
  obtain ⟨pr, r1, r2⟩ := hr.word (i := 0) (by simp) (ti := ty22) rfl
  replace r2 : qWZ ty22 pr G = some (.int .u64 x) := r2
  obtain ⟨p1, u1, p2, u2, q1, K2, q2, K3, a1, a2, a3, a4, a5, a6, a7, a8, a9⟩ := h.two hs hi hj x
  obtain ⟨rv', s1, s2⟩ := hr.from (k1 := .i64) (a := 1) (by simp) (by simp)
  (repeat (first | refine qQZ (qDZ _) ?_ | refine qQZ (qEZ _) ?_ | refine qQZ (qFZ _ _) ?_ | refine qQZ (qGZ _ _) ?_ | refine qQZ (by (try with_reducible first | refine gV_F ?_ | refine gV_T ?_); first | exact a1 | exact a2 | exact a3 | exact a4 | exact r1 | exact qKZ h.le r2 | exact a5 | exact q1Z _ _ | exact q2Z _ _ _ | exact q3Z _ | exact q4Z _ | exact q5Z _ _ _ | exact q6Z _ _ _ | exact q7Z _ _ _ | exact q8Z _ _ _ | exact q9Z _ _ _ | exact q0Z _ _ _ | exact qHZ (by omega) (by omega) | exact qIZ (by omega) (by omega) | exact qAZ _ | exact qBZ _ _ _ | exact qCZ _ _ _) ?_ | refine qQZ (gV_F rfl) ?_ | refine qQZ (gV_T rfl) ?_))
  refine p8Z a6 ?_
  (repeat (first | refine qQZ (qDZ _) ?_ | refine qQZ (qEZ _) ?_ | refine qQZ (qFZ _ _) ?_ | refine qQZ (qGZ _ _) ?_ | refine qQZ (by (try with_reducible first | refine gV_F ?_ | refine gV_T ?_); first | exact a7 | exact q1Z _ _ | exact q2Z _ _ _ | exact q3Z _ | exact q4Z _ | exact q5Z _ _ _ | exact q6Z _ _ _ | exact q7Z _ _ _ | exact q8Z _ _ _ | exact q9Z _ _ _ | exact q0Z _ _ _ | exact qHZ (by omega) (by omega) | exact qIZ (by omega) (by omega) | exact qAZ _ | exact qBZ _ _ _ | exact qCZ _ _ _) ?_ | refine qQZ (gV_F rfl) ?_ | refine qQZ (gV_T rfl) ?_))
  refine p8Z a8 ?_
  (repeat (first | refine qQZ (qDZ _) ?_ | refine qQZ (qEZ _) ?_ | refine qQZ (qFZ _ _) ?_ | refine qQZ (qGZ _ _) ?_ | refine qQZ (by (try with_reducible first | refine gV_F ?_ | refine gV_T ?_); first | exact s1 | exact q1Z _ _ | exact q2Z _ _ _ | exact q3Z _ | exact q4Z _ | exact q5Z _ _ _ | exact q6Z _ _ _ | exact q7Z _ _ _ | exact q8Z _ _ _ | exact q9Z _ _ _ | exact q0Z _ _ _ | exact qHZ (by omega) (by omega) | exact qIZ (by omega) (by omega) | exact qAZ _ | exact qBZ _ _ _ | exact qCZ _ _ _) ?_ | refine qQZ (gV_F rfl) ?_ | refine qQZ (gV_T rfl) ?_))
  exact hk rv' K3 (by simpa using s2) a9
theorem new_stop {rv : Value} (hj : n ≤ j) {kn kx5 : Value → Value → Value → Value → Heap → Prop} {kx4 : Value → Heap → Prop} {Q : Ending → Heap → Prop} (hk : kn rv (.int .i64 n) v (.int .i64 i) K) : L124_10 rv (.int .i64 n) v (.int .i64 i) (.int .i64 j) K kn kx5 kx4 Q := by
  apply L124_10_round
  unfold m124_11
  (repeat (first | refine qQZ (qDZ _) ?_ | refine qQZ (qEZ _) ?_ | refine qQZ (qFZ _ _) ?_ | refine qQZ (qGZ _ _) ?_ | refine qQZ (by (try with_reducible first | refine gV_F ?_ | refine gV_T ?_); first | exact q1Z _ _ | exact q2Z _ _ _ | exact q3Z _ | exact q4Z _ | exact q5Z _ _ _ | exact q6Z _ _ _ | exact q7Z _ _ _ | exact q8Z _ _ _ | exact q9Z _ _ _ | exact q0Z _ _ _ | exact qHZ (by omega) (by omega) | exact qIZ (by omega) (by omega) | exact qAZ _ | exact qBZ _ _ _ | exact qCZ _ _ _) ?_ | refine qQZ (gV_F rfl) ?_ | refine qQZ (gV_T rfl) ?_))
  exact qJZ (fun hlt => absurd hlt (by omega)) (fun _ => hk)
theorem new_row (hi : i < n) (hn : n ≤ 1000) {kn : Value → Heap → Prop} {Q : Ending → Heap → Prop} (hk : ∀ kn2 kx4 : Value → Value → Value → Value → Heap → Prop, (∀ rv K, L124_5 rv (.int .i64 n) v (.int .i64 ((i : Int) + 1)) K kn Q → kn2 rv (.int .i64 n) v (.int .i64 i) K) → L124_10 rv (.int .i64 n) v (.int .i64 i) (.int .i64 i) K kn2 kx4 kn Q) : L124_5 rv (.int .i64 n) v (.int .i64 i) K kn Q := by
  apply L124_5_round
  unfold m124_6
  (repeat (first | refine qQZ (qDZ _) ?_ | refine qQZ (qEZ _) ?_ | refine qQZ (qFZ _ _) ?_ | refine qQZ (qGZ _ _) ?_ | refine qQZ (by (try with_reducible first | refine gV_F ?_ | refine gV_T ?_); first | exact q1Z _ _ | exact q2Z _ _ _ | exact q3Z _ | exact q4Z _ | exact q5Z _ _ _ | exact q6Z _ _ _ | exact q7Z _ _ _ | exact q8Z _ _ _ | exact q9Z _ _ _ | exact q0Z _ _ _ | exact qHZ (by omega) (by omega) | exact qIZ (by omega) (by omega) | exact qAZ _ | exact qBZ _ _ _ | exact qCZ _ _ _) ?_ | refine qQZ (gV_F rfl) ?_ | refine qQZ (gV_T rfl) ?_))
  refine qJZ (fun hlt => ?_) (fun hlt => absurd (by omega) hlt)
  unfold m124_8 m124_9
  refine hk _ _ fun rv K hL => ?_
  unfold m124_7
  (repeat (first | refine qQZ (qDZ _) ?_ | refine qQZ (qEZ _) ?_ | refine qQZ (qFZ _ _) ?_ | refine qQZ (qGZ _ _) ?_ | refine qQZ (by (try with_reducible first | refine gV_F ?_ | refine gV_T ?_); first | exact q1Z _ _ | exact q2Z _ _ _ | exact q3Z _ | exact q4Z _ | exact q5Z _ _ _ | exact q6Z _ _ _ | exact q7Z _ _ _ | exact q8Z _ _ _ | exact q9Z _ _ _ | exact q0Z _ _ _ | exact qHZ (by omega) (by omega) | exact qIZ (by omega) (by omega) | exact qAZ _ | exact qBZ _ _ _ | exact qCZ _ _ _) ?_ | refine qQZ (gV_F rfl) ?_ | refine qQZ (gV_T rfl) ?_))
  exact hL
theorem new_end (hi : n ≤ i) {kn : Value → Heap → Prop} {Q : Ending → Heap → Prop} (hk : kn v K) : L124_5 rv (.int .i64 n) v (.int .i64 i) K kn Q := by
  apply L124_5_round
  unfold m124_6
  (repeat (first | refine qQZ (qDZ _) ?_ | refine qQZ (qEZ _) ?_ | refine qQZ (qFZ _ _) ?_ | refine qQZ (qGZ _ _) ?_ | refine qQZ (by (try with_reducible first | refine gV_F ?_ | refine gV_T ?_); first | exact q1Z _ _ | exact q2Z _ _ _ | exact q3Z _ | exact q4Z _ | exact q5Z _ _ _ | exact q6Z _ _ _ | exact q7Z _ _ _ | exact q8Z _ _ _ | exact q9Z _ _ _ | exact q0Z _ _ _ | exact qHZ (by omega) (by omega) | exact qIZ (by omega) (by omega) | exact qAZ _ | exact qBZ _ _ _ | exact qCZ _ _ _) ?_ | refine qQZ (gV_F rfl) ?_ | refine qQZ (gV_T rfl) ?_))
  exact qJZ (fun hlt => absurd hlt (by omega)) (fun _ => hk)
def newM : List Int → List Int → List (List Int)
  | [a, b], [c] => [[a, b], [b, c]]
  | [a, b, c], [d, e, f] => [[a, b, c], [b, d, e], [c, e, f]]
  | _, _ => []
def newOk (first rest : List Int) : Prop := (first.length = 2 ∧ rest.length = 1) ∨ (first.length = 3 ∧ rest.length = 3)
theorem len1 {l : List Int} (h : l.length = 1) : ∃ a, l = [a] := by
  match l, h with
  | [a], _ => exact ⟨a, rfl⟩
theorem len2 {l : List Int} (h : l.length = 2) : ∃ a b, l = [a, b] := by
  match l, h with
  | [a, b], _ => exact ⟨a, b, rfl⟩
theorem len3 {l : List Int} (h : l.length = 3) : ∃ a b c, l = [a, b, c] := by
  match l, h with
  | [a, b, c], _ => exact ⟨a, b, c, rfl⟩
theorem new2_spec (hf : Sl (eInt .u64) H fv first) (hr : Sl (eInt .u64) H rv rest) (hok : newOk first rest) : qVZ Tryd.prog 124 [fv, rv] H (Ret fun v H' => ∃ w N, v = .tuple #[w, .int .i64 0] ∧ New H H' N ∧ Sl (qXZ (eInt .u64)) N w (newM first rest)) := by
  apply call124
  unfold m124
  have z2 : Shape 2 (List.replicate 2 (List.replicate 2 0)) := ⟨by simp, fun i hi => by rw [List.getD_eq_getElem?_getD, List.getElem?_replicate, if_pos hi]; rfl⟩
  have z3 : Shape 3 (List.replicate 3 (List.replicate 3 0)) := ⟨by simp, fun i hi => by rw [List.getD_eq_getElem?_getD, List.getElem?_replicate, if_pos hi]; rfl⟩
  rcases hok with ⟨h1, h2⟩ | ⟨h1, h2⟩
  · obtain ⟨a, b, rfl⟩ := len2 h1
    obtain ⟨c, rfl⟩ := len1 h2
    refine qQZ hf.len (qQZ (v := .bool false) rfl (qQZ (v := rv) rfl (qQZ hr.len ?_)))
    refine qQZ (v := .int .i64 2) rfl (qQZ (v := .int .i64 2) rfl (qQZ (v := .int .i64 1) rfl (qQZ (v := .int .i64 2) rfl (qQZ (v := .int .i64 1) rfl (qQZ (v := .bool false) rfl (qQZ (v := .bool false) rfl (qLZ ?_)))))))
    refine MAt.make (n := 2) (by decide) fun w K hM => ?_
    unfold m124_15
    refine qQZ hM.len (new_rows (n := 2) (by decide) (fun K hM => ?_) _ 0 K rfl (by decide) hM)
    unfold m124_1 m124_12
    refine qQZ hf.len (new_first hf z2 rfl (by decide) (fun K hM => ?_) _ 0 K rfl (by decide) hM)
    unfold m124_2 m124_4
    refine new_row (n := 2) (i := 1) (by decide) (by decide) fun kn2 kx4 hk2 => ?_
    refine new_one (n := 2) (i := 1) (j := 1) hr hM (firstGo_shape z2 _) (by decide) (by decide) (by decide) fun rv' K' hr' hM' => ?_
    refine new_stop (n := 2) (j := 2) (by decide) (hk2 _ _ (new_end (n := 2) (i := 2) (by decide) ?_))
    obtain ⟨N, hN, hs⟩ := hM'.made
    exact ⟨w, N, rfl, hN, hs⟩
  · obtain ⟨a, b, c, rfl⟩ := len3 h1
    obtain ⟨d, e, f, rfl⟩ := len3 h2
    refine qQZ hf.len (qQZ (v := .bool false) rfl (qQZ (v := rv) rfl (qQZ hr.len ?_)))
    refine qQZ (v := .int .i64 3) rfl (qQZ (v := .int .i64 3) rfl (qQZ (v := .int .i64 2) rfl (qQZ (v := .int .i64 6) rfl (qQZ (v := .int .i64 3) rfl (qQZ (v := .bool false) rfl (qQZ (v := .bool false) rfl (qLZ ?_)))))))
    refine MAt.make (n := 3) (by decide) fun w K hM => ?_
    unfold m124_15
    refine qQZ hM.len (new_rows (n := 3) (by decide) (fun K hM => ?_) _ 0 K rfl (by decide) hM)
    unfold m124_1 m124_12
    refine qQZ hf.len (new_first hf z3 rfl (by decide) (fun K hM => ?_) _ 0 K rfl (by decide) hM)
    unfold m124_2 m124_4
    have s3 := firstGo_shape (first := [a, b, c]) z3 3
    refine new_row (n := 3) (i := 1) (by decide) (by decide) fun kn2 kx4 hk2 => ?_
    refine new_one (n := 3) (i := 1) (j := 1) hr hM s3 (by decide) (by decide) (by decide) fun r1 K1 hr1 hM1 => ?_
    replace s3 := (s3.setc 1 1 d).setc 1 1 d
    refine new_one (n := 3) (i := 1) (j := 2) hr1 hM1 s3 (by decide) (by decide) (by decide) fun r2 K2 hr2 hM2 => ?_
    replace s3 := (s3.setc 1 2 e).setc 2 1 e
    refine new_stop (n := 3) (j := 3) (by decide) (hk2 _ _ ?_)
    refine new_row (n := 3) (i := 2) (by decide) (by decide) fun kn2 kx4 hk2 => ?_
    refine new_one (n := 3) (i := 2) (j := 2) hr2 hM2 s3 (by decide) (by decide) (by decide) fun r3 K3 hr3 hM3 => ?_
    refine new_stop (n := 3) (j := 3) (by decide) (hk2 _ _ (new_end (n := 3) (i := 3) (by decide) ?_))
    obtain ⟨N, hN, hs⟩ := hM3.made
    exact ⟨w, N, rfl, hN, hs⟩
end
end

section
open Go

section
variable {R H : Heap} {F : Nat → Prop} {tn : TypeId} {jn : Nat} {s : Scn} {cv dv tv tp : Value} {rd : Int} {views : List (List Ev)} {ti : TI}
theorem NetB.lt (h : NetB R F tn H jn s cv dv tv tp rd views) (ht : ti.agg = false) : qWZ ti (.pointer (some ⟨jn, 8, none⟩)) H = some tp := by
  obtain ⟨F0, hF, hn⟩ := h
  exact hn.lt ht
theorem NetB.n (h : NetB R F tn H jn s cv dv tv tp rd views) : qWZ ty3 (.pointer (some ⟨jn, 1, none⟩)) H = some (.int .i64 s.N) := by
  obtain ⟨F0, hF, hn⟩ := h
  exact hn.n
theorem NetB.ok (h : NetB R F tn H jn s cv dv tv tp rd views) : ScnOk R s cv dv tv := by
  obtain ⟨F0, hF, hn⟩ := h
  exact hn.ok
theorem NetB.retape {tp' : Value} (h : NetB R F tn H jn s cv dv tv tp rd views) (hl : Le R H) (hk : ∀ b, F b → H b ≠ none) (hf : ∀ b, F b → R b = none) (ht : ti.agg = false) (hs : ti.size = 1) (ho : tp'.oneCell' = true) :
    ∃ H', p2Z ti (.pointer (some ⟨jn, 8, none⟩)) tp' H = some H' ∧ Mv R H F R H' F ∧ NetB R F tn H' jn s cv dv tv tp' rd views := by
  obtain ⟨F0, hF, hn⟩ := h
  obtain ⟨H', h1, h2, h3⟩ := hn.retape ht hs ho
  refine ⟨H', h1, ⟨Le.refl _, h2.le, fun b hb => .inl hb, fun b c hb hc => ?_, Wide.refl _ _, fun b hb => (h2.at_ b ((hF b).1 hb)).1, hf⟩, F0, hF, h2⟩
  rw [h3 b fun e => hc ((hF b).2 (.inr e))]
  exact hb
end
theorem tnew_spec {R H : Heap} {u : Value} {w : List Int} (hu : Sl (eInt .u64) R u w) : qVZ Tryd.prog 53 [u] H (Ret fun v H' => ∃ q, v = qTZ q ∧ H q = none ∧ H' = hins H q (.cells [u, .int .i64 0] 2 136 true)) := by
  obtain ⟨ub, uc, _, rfl, _⟩ := hu
  apply call53
  unfold m53
  refine qQZ (v := .agg #[.slice ub _ uc, .int .i64 0]) rfl ?_
  intro q hq
  exact ⟨q, rfl, hq, rfl⟩
structure NewSt (R H : Heap) (tg : Nat → Nat) (jn : Nat) (s : Scn) (cv dv tv : Value) (views : List (List Ev)) (tp : Value) (qs : List Nat) : Prop where
  lab : Lab R H tg
  net : NetB R (Pt tg 1) 98 H jn s cv dv tv tp 0 views
  row : Own 1 99 H tp qs.length (qs.map qTZ)
  own : ∀ b, blkOf tp = some b → tg b = 3
  nd : qs.Nodup
  in2 : ∀ q ∈ qs, tg q = 2
  tap : ∀ (k : Nat) q, qs[k]? = some q → ∃ wv, H q = some (.cells [wv, .int .i64 0] 2 136 true) ∧ Sl (eInt .u64) R wv (s.tapes.getD k [])
  few : ∀ b, tg b ≤ 3
section
variable {R H : Heap} {tg : Nat → Nat} {jn : Nat} {s : Scn} {cv dv tv tp : Value} {views : List (List Ev)} {qs : List Nat}
theorem taps_loop2 (hsl : s.tapes.length ≤ 1000) {kn : Value → Heap → Prop} {Q : Ending → Heap → Prop} (hk : ∀ tp qs tg H, NewSt R H tg jn s cv dv tv views tp qs → qs.length = s.tapes.length → kn (qTZ jn) H) :
    ∀ (d i : Nat) (tp : Value) (qs : List Nat) (tg : Nat → Nat) (H : Heap), s.tapes.length - i = d → i ≤ s.tapes.length → qs.length = i → NewSt R H tg jn s cv dv tv views tp qs → L12_3 (qTZ jn) tv (.int .i64 s.tapes.length) (.int .i64 i) H kn Q := by
  intro d
  induction d with
  | zero =>
    intro i tp qs tg H hd hi hq h
    apply L12_3_round
    unfold m12_4
    (repeat (first | refine qQZ (qDZ _) ?_ | refine qQZ (qEZ _) ?_ | refine qQZ (qFZ _ _) ?_ | refine qQZ (qGZ _ _) ?_ | refine qQZ (by (try with_reducible first | refine gV_F ?_ | refine gV_T ?_); first | exact q1Z _ _ | exact q2Z _ _ _ | exact q3Z _ | exact q4Z _ | exact q5Z _ _ _ | exact q6Z _ _ _ | exact q7Z _ _ _ | exact q8Z _ _ _ | exact q9Z _ _ _ | exact q0Z _ _ _ | exact qHZ (by omega) (by omega) | exact qIZ (by omega) (by omega) | exact qAZ _ | exact qBZ _ _ _ | exact qCZ _ _ _) ?_ | refine qQZ (gV_F rfl) ?_ | refine qQZ (gV_T rfl) ?_))
    exact qJZ (fun hlt => absurd hlt (by omega)) (fun _ => hk tp qs tg H h (by omega))
  | succ d ih =>
    intro i tp qs tg H hd hi hq h
    apply L12_3_round
    unfold m12_4
    (repeat (first | refine qQZ (qDZ _) ?_ | refine qQZ (qEZ _) ?_ | refine qQZ (qFZ _ _) ?_ | refine qQZ (qGZ _ _) ?_ | refine qQZ (by (try with_reducible first | refine gV_F ?_ | refine gV_T ?_); first | exact q1Z _ _ | exact q2Z _ _ _ | exact q3Z _ | exact q4Z _ | exact q5Z _ _ _ | exact q6Z _ _ _ | exact q7Z _ _ _ | exact q8Z _ _ _ | exact q9Z _ _ _ | exact q0Z _ _ _ | exact qHZ (by omega) (by omega) | exact qIZ (by omega) (by omega) | exact qAZ _ | exact qBZ _ _ _ | exact qCZ _ _ _) ?_ | refine qQZ (gV_F rfl) ?_ | refine qQZ (gV_T rfl) ?_))
    refine qJZ (fun hlt => ?_) (fun hlt => absurd (by omega) hlt)
    have hil : i < s.tapes.length := by omega
    obtain ⟨pt, u, a1, a2, a3⟩ := h.net.ok.tapes.row hil (ti := ty52) rfl
    have hl := h.lab.le
    (repeat (first | refine qQZ (qDZ _) ?_ | refine qQZ (qEZ _) ?_ | refine qQZ (qFZ _ _) ?_ | refine qQZ (qGZ _ _) ?_ | refine qQZ (by (try with_reducible first | refine gV_F ?_ | refine gV_T ?_); first | exact a1 | exact qKZ hl a2 | exact h.net.lt rfl | exact q1Z _ _ | exact q2Z _ _ _ | exact q3Z _ | exact q4Z _ | exact q5Z _ _ _ | exact q6Z _ _ _ | exact q7Z _ _ _ | exact q8Z _ _ _ | exact q9Z _ _ _ | exact q0Z _ _ _ | exact qHZ (by omega) (by omega) | exact qIZ (by omega) (by omega) | exact qAZ _ | exact qBZ _ _ _ | exact qCZ _ _ _) ?_ | refine qQZ (gV_F rfl) ?_ | refine qQZ (gV_T rfl) ?_))
    refine p9Z (tnew_spec a3) fun v H1 hv => ?_
    obtain ⟨q, rfl, hq0, rfl⟩ := hv
    -- the tape's block
    have hle1 : Le H (hins H q (.cells [u, .int .i64 0] 2 136 true)) := Le.ins _ hq0
    have hsf : hins H q (.cells [u, .int .i64 0] 2 136 true) q = some (.cells [u, .int .i64 0] 2 136 true) := hins_self _ _ _
    generalize hins H q (.cells [u, .int .i64 0] 2 136 true) = H1 at hle1 hsf
    have hqt : tg q = 0 := by
      by_cases e : tg q = 0
      · exact e
      · exact absurd hq0 (h.lab.kn q e)
    have m1 : Mv R H (Pt tg 2) R H1 (fun b => tg b = 2 ∨ b = q) := ⟨Le.refl _, hl.trans hle1, fun b hb => .inl hb, fun b c hb _ => hle1 b c hb, ⟨fun b hb => .inl hb, fun b hb => by
        rcases hb with e | rfl
        · exact .inl e
        · exact .inr hq0⟩, fun b hb => by
        rcases hb with e | rfl
        · exact (h.lab.mono hle1).kn b (by omega)
        · rw [hsf]; simp, fun b hb => by
        rcases hb with e | rfl
        · exact h.lab.fr b (by omega)
        · exact none_le hl hq0⟩
    obtain ⟨tg1, lab1, e2, st1⟩ := h.lab.move (by decide) m1
    have n1 : NetB R (Pt tg1 1) 98 H1 jn s cv dv tv tp 0 views := by
      rw [(st1 1 (by decide) (by decide)).1]
      exact h.net.keep (Le.refl _) lab1.le (fun b c hb hc => hle1 b c hc) (fun b hb => h.lab.fr b (by have : tg b = 1 := hb; omega))
    have in2' : ∀ b, tg1 b = 2 ↔ (tg b = 2 ∨ b = q) := fun b => by
      have := congrFun e2 b
      exact Iff.of_eq this
    have in3' : ∀ b, tg1 b = 3 ↔ tg b = 3 := fun b => by
      have := congrFun (st1 3 (by decide) (by decide)).1 b
      exact Iff.of_eq this
    have row1 : Own 1 99 H1 tp qs.length (qs.map qTZ) := h.row.mono fun b hb => by
      obtain ⟨_, _, e⟩ := h.row.at_ hb
      rw [e, hle1 _ _ e]
    refine ⟨n1.lt rfl, ?_⟩
    -- the row of pointers
    refine Own.appB (te := ty99) (n := qs.length) (x := qTZ q) (Fi := Pt tg1 3) row1 rfl rfl (fun c hc => by have : c = qTZ q := List.mem_singleton.1 hc; rw [this]; rfl) (by decide) (by show (qs.length + 1) * 8 ≤ _; omega) (by omega) (fun b hb => (in3' b).2 (h.own b hb)) fun tp' H2 Fi' c1 c2 c3 c4 c5 => ?_
    have m2 : Mv R H1 (Pt tg1 3) R H2 Fi' := ⟨Le.refl _, c3.le lab1.le (fun b hb => lab1.fr b (by have : tg1 b = 3 := hb; omega)), fun b hb => .inl hb, c3, c4, fun b hb => c5 b hb fun hb => lab1.kn b (by have : tg1 b = 3 := hb; omega), c4.none (fun b hb => lab1.fr b (by have : tg1 b = 3 := hb; omega)) lab1.le⟩
    obtain ⟨tg2, lab2, e3, st2⟩ := lab1.move (by decide) m2
    have n2 : NetB R (Pt tg2 1) 98 H2 jn s cv dv tv tp 0 views := by
      rw [(st2 1 (by decide) (by decide)).1]
      exact n1.keep (Le.refl _) lab2.le (fun b c hb hc => (st2 1 (by decide) (by decide)).2 b c hb hc) (fun b hb => lab1.fr b (by have : tg1 b = 1 := hb; omega))
    have ho1 : tp'.oneCell' = true := by rcases c1 with ⟨rfl, _⟩ | ⟨_, _, rfl, _⟩ <;> rfl
    obtain ⟨H3, t1, m3, n3⟩ := n2.retape (ti := ty96) (tp' := tp') lab2.le (fun b hb => lab2.kn b (by have : tg2 b = 1 := hb; omega)) (fun b hb => lab2.fr b (by have : tg2 b = 1 := hb; omega)) rfl rfl ho1
    obtain ⟨tg3, lab3, e4, st3⟩ := lab2.move (by decide) m3
    (repeat (first | refine qQZ (qDZ _) ?_ | refine qQZ (qEZ _) ?_ | refine qQZ (qFZ _ _) ?_ | refine qQZ (qGZ _ _) ?_ | refine qQZ (by (try with_reducible first | refine gV_F ?_ | refine gV_T ?_); first | exact q1Z _ _ | exact q2Z _ _ _ | exact q3Z _ | exact q4Z _ | exact q5Z _ _ _ | exact q6Z _ _ _ | exact q7Z _ _ _ | exact q8Z _ _ _ | exact q9Z _ _ _ | exact q0Z _ _ _ | exact qHZ (by omega) (by omega) | exact qIZ (by omega) (by omega) | exact qAZ _ | exact qBZ _ _ _ | exact qCZ _ _ _) ?_ | refine qQZ (gV_F rfl) ?_ | refine qQZ (gV_T rfl) ?_))
    refine p8Z t1 ?_
    (repeat (first | refine qQZ (qDZ _) ?_ | refine qQZ (qEZ _) ?_ | refine qQZ (qFZ _ _) ?_ | refine qQZ (qGZ _ _) ?_ | refine qQZ (by (try with_reducible first | refine gV_F ?_ | refine gV_T ?_); first | exact q1Z _ _ | exact q2Z _ _ _ | exact q3Z _ | exact q4Z _ | exact q5Z _ _ _ | exact q6Z _ _ _ | exact q7Z _ _ _ | exact q8Z _ _ _ | exact q9Z _ _ _ | exact q0Z _ _ _ | exact qHZ (by omega) (by omega) | exact qIZ (by omega) (by omega) | exact qAZ _ | exact qBZ _ _ _ | exact qCZ _ _ _) ?_ | refine qQZ (gV_F rfl) ?_ | refine qQZ (gV_T rfl) ?_))
    have a2 : ∀ b, tg3 b = 2 ↔ (tg b = 2 ∨ b = q) := fun b => by
      rw [show (tg3 b = 2) = (tg2 b = 2) from congrFun (st3 2 (by decide) (by decide)).1 b, show (tg2 b = 2) = (tg1 b = 2) from congrFun (st2 2 (by decide) (by decide)).1 b]
      exact in2' b
    have k2 : ∀ b c, tg1 b = 2 → H1 b = some c → H3 b = some c := fun b c hb hc => (st3 2 (by decide) (by decide)).2 b c (by rw [show (tg2 b = 2) = (tg1 b = 2) from congrFun (st2 2 (by decide) (by decide)).1 b]; exact hb) ((st2 2 (by decide) (by decide)).2 b c hb hc)
    refine ih (i + 1) tp' (qs ++ [q]) tg3 H3 (by omega) (by omega) (by simp; omega) ⟨lab3, by rw [e4]; exact n3, ?_, fun b hb => ?_, ?_, fun x hx => ?_, fun k x hx => ?_, fun b => ?_⟩
    · have e5 : tg2 = tg2 := rfl
      have := c1.mono (G := H3) fun b hb => by
        obtain ⟨_, _, e⟩ := c1.at_ hb
        rw [e]
        exact (st3 3 (by decide) (by decide)).2 b _ (show Pt tg2 3 b by rw [e3]; exact c2 b hb) e
      rw [List.length_append, List.map_append]
      exact this
    · rw [show (tg3 b = 3) = (tg2 b = 3) from congrFun (st3 3 (by decide) (by decide)).1 b, show (tg2 b = 3) = Fi' b from congrFun e3 b]
      exact c2 b hb
    · rw [List.nodup_append]
      refine ⟨h.nd, by simp, fun a ha b hb e => ?_⟩
      rw [List.mem_singleton.1 hb] at e
      subst e
      have := h.in2 a ha
      omega
    · rw [a2]
      rcases List.mem_append.1 hx with hx | hx
      · exact .inl (h.in2 x hx)
      · exact .inr (List.mem_singleton.1 hx)
    · by_cases hkl : k < qs.length
      · rw [List.getElem?_append_left hkl] at hx
        obtain ⟨wv, b1, b2⟩ := h.tap k x hx
        exact ⟨wv, k2 x _ ((in2' x).2 (.inl (h.in2 x (List.mem_of_getElem? hx)))) (hle1 _ _ b1), b2⟩
      · rw [List.getElem?_append_right (by omega)] at hx
        have hk0 : k = qs.length := by
          by_cases e : k - qs.length = 0
          · omega
          · rw [List.getElem?_eq_none (by simp; omega)] at hx; cases hx
        subst hk0
        rw [Nat.sub_self] at hx
        cases hx
        refine ⟨u, k2 _ _ ((in2' _).2 (.inr rfl)) hsf, ?_⟩
        rw [hq, List.getD_eq_getElem?_getD, List.getElem?_eq_getElem hil]
        exact a3
    · have hz : ∀ b, tg3 b ≠ 0 → tg3 b = 1 ∨ tg3 b = 2 ∨ tg3 b = 3 := fun b hb => by
        by_cases h1 : tg3 b = 1
        · exact .inl h1
        by_cases h2 : tg3 b = 2
        · exact .inr (.inl h2)
        by_cases h3 : tg3 b = 3
        · exact .inr (.inr h3)
        have q2 : tg2 b = tg3 b := (show (tg3 b = tg3 b) = (tg2 b = tg3 b) from congrFun (st3 (tg3 b) hb h1).1 b).mp rfl
        have q1 : tg1 b = tg3 b := (show (tg2 b = tg3 b) = (tg1 b = tg3 b) from congrFun (st2 (tg3 b) hb h3).1 b).mp q2
        have q0 : tg b = tg3 b := (show (tg1 b = tg3 b) = (tg b = tg3 b) from congrFun (st1 (tg3 b) hb h2).1 b).mp q1
        have := h.few b
        omega
      by_cases h0 : tg3 b = 0
      · omega
      · rcases hz b h0 with h | h | h <;> omega
def Born2 (s : Scn) (cv dv tv : Value) (H : Heap) : Ending → Heap → Prop := Ret fun v H' => (ScnV s ∧ ∃ jn R tg tp qs, v = .tuple #[qTZ jn, .int .i64 0] ∧ Le H R ∧ Lab R H' tg ∧ NetB R (Pt tg 1) 98 H' jn s cv dv tv tp 0 (List.replicate s.N.toNat []) ∧ TapB R (Pt tg 2) 136 H' tp qs (s.tapes.map fun w => (w, 0)) ∧ ∀ b, tg b ≤ 2) ∨ (¬ ScnV s ∧ v = .tuple #[.pointer none, .int .i64 1] ∧ Le H H')
theorem new_tapes (hG : GL H) (hok : ScnOk H s cv dv tv) (hk : ∀ d ∈ s.devs, 0 ≤ d.k ∧ d.k ≤ 18446744073709551615) : qVZ Tryd.prog 12 [scnVal s cv dv tv] H (Born2 s cv dv tv H) := by
  apply call12
  unfold m12
  refine scn_new s cv dv tv fun i1 H1 l1 hs => ?_
  refine qQZ hs.all (p9Z (pscn_spec (hG.mono l1) (hok.mono l1) hk) fun v H2 hv => ?_)
  obtain ⟨l2, b, rfl, hb⟩ := hv
  have l := l1.trans l2
  replace hs := hs.mono l2
  cases b with
  | false => exact qQZ (v := .bool true) rfl (qMZ (.inr ⟨fun h => by have := hb.2 h; (cases this), rfl, l⟩))
  | true =>
    have hV := hb.1 rfl
    obtain ⟨hp, hn4, hn13, _⟩ := hV.par
    have htl := hV.len
    obtain ⟨n, hn⟩ : ∃ n : Nat, s.N = n := ⟨s.N.toNat, by omega⟩
    have hsn := hs.n
    rw [hn] at hsn
    refine qQZ (v := .bool false) rfl (qLZ (qQZ hs.all (qQZ (q1Z _ _) (qQZ (v := .pointer (some ⟨i1, 1, none⟩)) rfl (qQZ hsn ?_)))))
    refine oMake_own (te := ty49) rfl (by show 24 * _ ≤ _; omega) (by omega) fun vv H3 hg => ?_
    rw [zerosL_one rfl] at hg
    obtain ⟨vb, vn, vc, rfl⟩ : ∃ b n c, vv = .slice b n c := by
      obtain ⟨b, c, e, _⟩ := hg.2.1.read
      exact ⟨b, _, c, e⟩
    refine qQZ (v := .agg (netCells s cv dv tv (.slice none 0 0) 0 (.slice vb vn vc)).toArray) rfl ?_
    show oNew (netCells s cv dv tv (.slice none 0 0) 0 (.slice vb vn vc)) 9 98 H3 _
    intro jn hj
    have h0 := TapSt.init (tt := 99) (tn := 98) (hok.mono l) hg hj rfl
    unfold m12_2
    have hs3 := (hs.mono hg.1).mono (Le.ins (.cells (netCells s cv dv tv (.slice none 0 0) 0 (.slice vb vn vc)) 9 98 true) hj)
    refine qQZ (q1Z _ _) (qQZ hs3.t (qQZ hok.tapes.len ?_))
    have hnet := h0.net
    classical
    have hst : NewSt H2 (hins H3 jn (.cells (netCells s cv dv tv (.slice none 0 0) 0 (.slice vb vn vc)) 9 98 true)) (fun b => if blkOf (.slice vb vn vc) = some b ∨ b = jn then 1 else 0) jn s cv dv tv (List.replicate n []) (.slice none 0 0) [] := by
      have hp1 : ∀ b, (if blkOf (.slice vb vn vc) = some b ∨ b = jn then 1 else 0) ≠ 0 → blkOf (.slice vb vn vc) = some b ∨ b = jn := fun b hb => by
        by_cases e : blkOf (.slice vb vn vc) = some b ∨ b = jn
        · exact e
        · rw [if_neg e] at hb; exact absurd rfl hb
      refine ⟨⟨hnet.le, fun b hb => (hnet.at_ b (hp1 b hb)).2, fun b hb => (hnet.at_ b (hp1 b hb)).1⟩, ⟨fun b => blkOf (.slice vb vn vc) = some b, fun b => ?_, hnet⟩, Own.nil _ _ _, fun b hb => (by cases hb), by simp, fun q hq => (by cases hq), fun k q hq => by simp at hq, fun b => ?_⟩
      · show (if blkOf (.slice vb vn vc) = some b ∨ b = jn then 1 else 0) = 1 ↔ _
        by_cases e : blkOf (.slice vb vn vc) = some b ∨ b = jn
        · rw [if_pos e]; exact ⟨fun _ => e, fun _ => rfl⟩
        · rw [if_neg e]; exact ⟨fun x => (by cases x), fun x => absurd x e⟩
      · show (if blkOf (.slice vb vn vc) = some b ∨ b = jn then 1 else 0) ≤ 3
        split <;> decide
    refine taps_loop2 (by omega) (fun tp qs tg K hK hql => ?_) _ 0 _ _ _ _ rfl (by omega) rfl hst
    unfold m12_1
    have hnn : s.N.toNat = n := by omega
    obtain ⟨G, tg', labG, lG, kG, _, nG, sG⟩ := hK.lab.freeze (i := 3) (by decide)
    have e1 := (sG 1 (by decide) (by decide)).1
    have e2 := (sG 2 (by decide) (by decide)).1
    refine .inl ⟨hV, jn, G, tg', tp, qs, rfl, l.trans lG, labG, ?_, ⟨?_, by simp [hql], hK.nd, fun q hq => ?_, fun k q t hq ht => ?_⟩, fun b => ?_⟩
    · rw [hnn, e1]
      exact hK.net.keep lG labG.le (fun b c _ hc => hc) (fun b hb => by rw [← e1] at hb; exact labG.fr b (by have : tg' b = 1 := hb; omega))
    · have ho : Own 1 99 G tp qs.length (qs.map qTZ) := hK.row.mono fun b hb => by
        obtain ⟨_, _, e⟩ := hK.row.at_ hb
        rw [e]
        exact kG b _ (hK.own b hb) e
      exact Own.sl (e := ePtr) ho fun i x hx => one_get _ i (qTZ x) (by rw [List.getElem?_map, hx]; rfl)
    · rw [e2]
      exact hK.in2 q hq
    · obtain ⟨wv, b1, b2⟩ := hK.tap k q hq
      rw [List.getElem?_map] at ht
      obtain ⟨w, hw, rfl⟩ := Option.map_eq_some_iff.1 ht
      rw [List.getD_eq_getElem?_getD, hw] at b2
      exact ⟨wv, b1, b2.mono lG⟩
    · by_cases h0 : tg' b = 0
      · omega
      by_cases h3 : tg' b = 3
      · exact absurd h3 (nG b)
      have q0 : tg b = tg' b := (show (tg' b = tg' b) = (tg b = tg' b) from congrFun (sG (tg' b) h0 h3).1 b).mp rfl
      have := hK.few b
      omega
end
section
variable {R H : Heap} {F F2 : Nat → Prop} {jn : Nat} {s : Scn} {cv dv tv tp : Value} {rd : Int} {views : List (List Ev)} {qs : List Nat} {ts : List (List Int × Nat)} {i : Nat}
theorem tape_spec (h : NetB R F 98 H jn s cv dv tv tp rd views) (ht : TapB R F2 136 H tp qs ts) (hl : Le R H) (hi : i < ts.length) : ∃ q, qs[i]? = some q ∧ qVZ Tryd.prog 122 [qTZ jn, .int .i64 ((i : Int) + 1)] H (Val (qTZ q) H) := by
  have hlen := ht.2.1
  have hmx := ht.1.max
  have hq : qs[i]? = some (qs[i]'(by omega)) := List.getElem?_eq_getElem _
  refine ⟨_, hq, ?_⟩
  apply call122
  unfold m122
  obtain ⟨p, cs, x, hp, hx, hr, ha⟩ := ht.1.at_ .i64 (i := (i : Int)) (by omega) (by omega)
  rw [Int.toNat_natCast, hq] at hx
  cases hx
  cases hr
  (repeat (first | refine qQZ (qDZ _) ?_ | refine qQZ (qEZ _) ?_ | refine qQZ (qFZ _ _) ?_ | refine qQZ (qGZ _ _) ?_ | refine qQZ (by (try with_reducible first | refine gV_F ?_ | refine gV_T ?_); first | exact h.lt rfl | exact q1Z _ _ | exact q2Z _ _ _ | exact q3Z _ | exact q4Z _ | exact q5Z _ _ _ | exact q6Z _ _ _ | exact q7Z _ _ _ | exact q8Z _ _ _ | exact q9Z _ _ _ | exact q0Z _ _ _ | exact qHZ (by omega) (by omega) | exact qIZ (by omega) (by omega) | exact qAZ _ | exact qBZ _ _ _ | exact qCZ _ _ _) ?_ | refine qQZ (gV_F rfl) ?_ | refine qQZ (gV_T rfl) ?_))
  rw [show (i : Int) + 1 - 1 = i by omega]
  (repeat (first | refine qQZ (qDZ _) ?_ | refine qQZ (qEZ _) ?_ | refine qQZ (qFZ _ _) ?_ | refine qQZ (qGZ _ _) ?_ | refine qQZ (by (try with_reducible first | refine gV_F ?_ | refine gV_T ?_); first | exact hp | exact qKZ hl (ha.load rfl) | exact q1Z _ _ | exact q2Z _ _ _ | exact q3Z _ | exact q4Z _ | exact q5Z _ _ _ | exact q6Z _ _ _ | exact q7Z _ _ _ | exact q8Z _ _ _ | exact q9Z _ _ _ | exact q0Z _ _ _ | exact qHZ (by omega) (by omega) | exact qIZ (by omega) (by omega) | exact qAZ _ | exact qBZ _ _ _ | exact qCZ _ _ _) ?_ | refine qQZ (gV_F rfl) ?_ | refine qQZ (gV_T rfl) ?_))
  exact ⟨rfl, rfl⟩
theorem take_spec {n : Nat} (ht : TapB R F2 136 H tp qs ts) (hl : Le R H) (hk : ∀ b, F2 b → H b ≠ none) (hf : ∀ b, F2 b → R b = none) (hi : i < ts.length) {q : Nat} (hq : qs[i]? = some q) (h0 : 0 < ts[i].1.length) (hn : ts[i].2 + n ≤ ts[i].1.length) (hb : ts[i].1.length ≤ 1000000) :
    qVZ Tryd.prog 123 [qTZ q, .int .i64 n] H (Ret fun v H' => ∃ w, v = .tuple #[w, .int .i64 0] ∧ Sl (eInt .u64) R w ((ts[i].1.drop ts[i].2).take n) ∧ Mv R H F2 R H' F2 ∧ TapB R F2 136 H' tp qs (ts.set i (ts[i].1, ts[i].2 + n))) := by
  obtain ⟨q', wv, e, hFq, hH, hs⟩ := ht.get hi
  rw [hq] at e
  cases e
  generalize hw : ts[i].1 = w at *
  generalize ha : ts[i].2 = a at *
  have l0 : qWZ ty52 (.pointer (some ⟨q, 0, none⟩)) H = some wv := by simp only [qWZ, hH]; rfl
  have l1 : qWZ ty3 (.pointer (some ⟨q, 1, none⟩)) H = some (.int .i64 a) := by simp only [qWZ, hH]; rfl
  have rem : qVZ Tryd.prog 143 [qTZ q] H (Val (.int .i64 ((w.length : Int) - a)) H) := by
    apply call143
    unfold m143
    (repeat (first | refine qQZ (qDZ _) ?_ | refine qQZ (qEZ _) ?_ | refine qQZ (qFZ _ _) ?_ | refine qQZ (qGZ _ _) ?_ | refine qQZ (by (try with_reducible first | refine gV_F ?_ | refine gV_T ?_); first | exact l0 | exact l1 | exact (hs.mono hl).len | exact q1Z _ _ | exact q2Z _ _ _ | exact q3Z _ | exact q4Z _ | exact q5Z _ _ _ | exact q6Z _ _ _ | exact q7Z _ _ _ | exact q8Z _ _ _ | exact q9Z _ _ _ | exact q0Z _ _ _ | exact qHZ (by omega) (by omega) | exact qIZ (by omega) (by omega) | exact qAZ _ | exact qBZ _ _ _ | exact qCZ _ _ _) ?_ | refine qQZ (gV_F rfl) ?_ | refine qQZ (gV_T rfl) ?_))
    exact ⟨rfl, rfl⟩
  apply call123
  unfold m123
  refine qQZ (q7Z _ _ _) ?_
  rw [decide_eq_false (by omega)]
  refine qQZ (v := .int .i64 n) rfl (qQZ (v := qTZ q) rfl (gK_FF (oRC_val rem ?_)))
  (repeat (first | refine qQZ (qDZ _) ?_ | refine qQZ (qEZ _) ?_ | refine qQZ (qFZ _ _) ?_ | refine qQZ (qGZ _ _) ?_ | refine qQZ (by (try with_reducible first | refine gV_F ?_ | refine gV_T ?_); first | exact q1Z _ _ | exact q2Z _ _ _ | exact q3Z _ | exact q4Z _ | exact q5Z _ _ _ | exact q6Z _ _ _ | exact q7Z _ _ _ | exact q8Z _ _ _ | exact q9Z _ _ _ | exact q0Z _ _ _ | exact qHZ (by omega) (by omega) | exact qIZ (by omega) (by omega) | exact qAZ _ | exact qBZ _ _ _ | exact qCZ _ _ _) ?_ | refine qQZ (gV_F rfl) ?_ | refine qQZ (gV_T rfl) ?_))
  refine qJZ (fun c => absurd c (by omega)) (fun _ => ?_)
  (repeat (first | refine qQZ (qDZ _) ?_ | refine qQZ (qEZ _) ?_ | refine qQZ (qFZ _ _) ?_ | refine qQZ (qGZ _ _) ?_ | refine qQZ (by (try with_reducible first | refine gV_F ?_ | refine gV_T ?_); first | exact l1 | exact q1Z _ _ | exact q2Z _ _ _ | exact q3Z _ | exact q4Z _ | exact q5Z _ _ _ | exact q6Z _ _ _ | exact q7Z _ _ _ | exact q8Z _ _ _ | exact q9Z _ _ _ | exact q0Z _ _ _ | exact qHZ (by omega) (by omega) | exact qIZ (by omega) (by omega) | exact qAZ _ | exact qBZ _ _ _ | exact qCZ _ _ _) ?_ | refine qQZ (gV_F rfl) ?_ | refine qQZ (gV_T rfl) ?_))
  have st : p2Z ty3 (.pointer (some ⟨q, 1, none⟩)) (.int .i64 ((a : Int) + n)) H = some (hins H q (.cells [wv, .int .i64 ((a : Int) + n)] 2 136 true)) := by
    simp only [p2Z, hH]
    rfl
  refine p8Z st ?_
  have hl' : Le R (hins H q (.cells [wv, .int .i64 ((a : Int) + n)] 2 136 true)) := hl.put (hf q hFq)
  have l0' : qWZ ty52 (.pointer (some ⟨q, 0, none⟩)) (hins H q (.cells [wv, .int .i64 ((a : Int) + n)] 2 136 true)) = some wv := by simp only [qWZ, hins_self]; rfl
  have l1' : qWZ ty3 (.pointer (some ⟨q, 1, none⟩)) (hins H q (.cells [wv, .int .i64 ((a : Int) + n)] 2 136 true)) = some (.int .i64 ((a : Int) + n)) := by simp only [qWZ, hins_self]; rfl
  obtain ⟨w', p1, p2⟩ := hs.part3 (k1 := .i64) (k2 := .i64) (k3 := .i64) (a := a) (b := a + n) h0 (by omega) hn
  rw [Int.natCast_add] at p1
  (repeat (first | refine qQZ (qDZ _) ?_ | refine qQZ (qEZ _) ?_ | refine qQZ (qFZ _ _) ?_ | refine qQZ (qGZ _ _) ?_ | refine qQZ (by (try with_reducible first | refine gV_F ?_ | refine gV_T ?_); first | exact l0' | exact l1' | exact p1 | exact q1Z _ _ | exact q2Z _ _ _ | exact q3Z _ | exact q4Z _ | exact q5Z _ _ _ | exact q6Z _ _ _ | exact q7Z _ _ _ | exact q8Z _ _ _ | exact q9Z _ _ _ | exact q0Z _ _ _ | exact qHZ (by omega) (by omega) | exact qIZ (by omega) (by omega) | exact qAZ _ | exact qBZ _ _ _ | exact qCZ _ _ _) ?_ | refine qQZ (gV_F rfl) ?_ | refine qQZ (gV_T rfl) ?_))
  rw [show a + n - a = n by omega] at p2
  refine ⟨w', rfl, p2, ⟨Le.refl _, hl', fun b hb => .inl hb, fun b c hc hF => ?_, Wide.refl _ _, fun b hb => ?_, hf⟩, ht.1, by rw [List.length_set]; exact ht.2.1, ht.2.2.1, ht.2.2.2.1, fun k x t hx htk => ?_⟩
  · rw [qOZ _ _ (fun e => by subst e; exact hF hFq)]
    exact hc
  · by_cases e : b = q
    · subst e; rw [hins_self]; simp
    · rw [qOZ _ _ e]; exact hk b hb
  · by_cases e : i = k
    · subst e
      rw [hq] at hx
      cases hx
      rw [List.getElem?_set_self hi] at htk
      cases htk
      exact ⟨wv, hins_self _ _ _, hs⟩
    · rw [List.getElem?_set_ne e] at htk
      obtain ⟨wv', b1, b2⟩ := ht.2.2.2.2 k x t hx htk
      refine ⟨wv', ?_, b2⟩
      rw [qOZ _ _ (fun e2 => ?_)]
      · exact b1
      · subst e2
        have h1 := (List.getElem?_eq_some_iff.1 hq).1
        have h2 := (List.getElem?_eq_some_iff.1 hx).1
        have := (List.getElem_inj (h₀ := h1) (h₁ := h2) ht.2.2.1).1 (by rw [(List.getElem?_eq_some_iff.1 hq).2, (List.getElem?_eq_some_iff.1 hx).2])
        exact e this
end
end

section
open Go

theorem p6Z {α : Type} {l : List α} {k : Nat} {d : α} (h : k < l.length) : l.getD k d = l[k] := by simp [List.getD_eq_getElem?_getD, h]
def fillG {α : Type} (A : List (List α)) (i k : Nat) : List (List α) := (List.range A.length).map fun d => if d < i then A.getD d [] else if d = i then (A.getD d []).take k else []
section
variable {α : Type} {A : List (List α)} {i k : Nat}
theorem fillG_len : (fillG A i k).length = A.length := by simp [fillG]
theorem fillG_at {d : Nat} (hd : d < A.length) : (fillG A i k).getD d [] = if d < i then A.getD d [] else if d = i then (A.getD d []).take k else [] := by
  rw [List.getD_eq_getElem?_getD]
  simp [fillG, hd]
theorem fillG_get (hi : i < A.length) : (fillG A i k).getD i [] = (A.getD i []).take k := by
  rw [fillG_at hi, if_neg (by omega), if_pos rfl]
theorem getD_ext {α : Type} {A B : List (List α)} (hl : A.length = B.length) (h : ∀ d, d < A.length → A.getD d [] = B.getD d []) : A = B := by
  apply List.ext_getElem hl
  intro d h1 h2
  have := h d h1
  simpa [h1, h2] using this
theorem fillG_push (hi : i < A.length) (hk : k < (A.getD i []).length) : (fillG A i k).set i ((A.getD i []).take k ++ [(A.getD i [])[k]]) = fillG A i (k + 1) := by
  apply getD_ext (by simp [fillG_len])
  intro d hd
  rw [List.length_set, fillG_len] at hd
  rw [List.getD_eq_getElem?_getD, fillG_at hd]
  by_cases e : i = d
  · subst e
    rw [List.getElem?_set_self (by rw [fillG_len]; exact hi), if_neg (by omega), if_pos rfl, List.take_succ_eq_append_getElem hk]
    rfl
  · rw [List.getElem?_set_ne e, ← List.getD_eq_getElem?_getD, fillG_at hd]
    by_cases h1 : d < i
    · rw [if_pos h1, if_pos h1]
    · rw [if_neg h1, if_neg h1, if_neg (by omega), if_neg (by omega)]
theorem fillG_next (hi : i < A.length) : fillG A i (A.getD i []).length = fillG A (i + 1) 0 := by
  apply getD_ext (by simp [fillG_len])
  intro d hd
  rw [fillG_len] at hd
  rw [fillG_at hd, fillG_at hd]
  by_cases h1 : d < i
  · rw [if_pos h1, if_pos (by omega)]
  · by_cases h2 : d = i
    · subst h2
      rw [if_neg h1, if_pos rfl, if_pos (by omega), List.take_length]
    · rw [if_neg h1, if_neg h2, if_neg (by omega)]
      split
      · rw [List.take_zero]
      · rfl
theorem fillG_zero : fillG A 0 0 = List.replicate A.length [] := by
  apply getD_ext (by simp [fillG_len])
  intro d hd
  rw [fillG_len] at hd
  have e : (List.replicate A.length ([] : List α)).getD d [] = [] := by rw [List.getD_eq_getElem?_getD, List.getElem?_replicate, if_pos hd]; rfl
  rw [fillG_at hd, if_neg (by omega), e]
  split
  · exact List.take_zero
  · rfl
theorem fillG_end : fillG A A.length 0 = A := by
  apply getD_ext (by simp [fillG_len])
  intro d hd
  rw [fillG_len] at hd
  rw [fillG_at hd, if_pos hd]
end
structure Ctx where
  jn : Nat
  jp : Nat
  s : Scn
  cv : Value
  dv : Value
  tv : Value
  tp : Value
  qv : Value
  Sv : Value
  Rv : Value
  Fv : Value
  q : List (List (List Int))
  qs : List Nat
def Ctx.cells (E : Ctx) : List Value := [qTZ E.jn, .int .u64 E.s.P, .int .i64 E.s.N, .int .i64 E.s.T, E.qv, E.Sv, E.Rv, E.Fv]
structure PhAt (K : Heap) (E : Ctx) : Prop where
  blk : K E.jp = some (.cells E.cells 8 152 true)
section
variable {K K' : Heap} {E : Ctx}
theorem PhAt.mono (h : PhAt K E) (hl : Le K K') : PhAt K' E := ⟨hl _ _ h.blk⟩
theorem PhAt.jn (h : PhAt K E) : qWZ ty35 (.pointer (some ⟨E.jp, 0, none⟩)) K = some (qTZ E.jn) := by simp only [qWZ, h.blk]; rfl
theorem PhAt.p (h : PhAt K E) : qWZ ty22 (.pointer (some ⟨E.jp, 1, none⟩)) K = some (.int .u64 E.s.P) := by simp only [qWZ, h.blk]; rfl
theorem PhAt.n (h : PhAt K E) : qWZ ty3 (.pointer (some ⟨E.jp, 2, none⟩)) K = some (.int .i64 E.s.N) := by simp only [qWZ, h.blk]; rfl
theorem PhAt.t (h : PhAt K E) : qWZ ty3 (.pointer (some ⟨E.jp, 3, none⟩)) K = some (.int .i64 E.s.T) := by simp only [qWZ, h.blk]; rfl
theorem PhAt.q (h : PhAt K E) : qWZ ty44 (.pointer (some ⟨E.jp, 4, none⟩)) K = some E.qv := by simp only [qWZ, h.blk]; rfl
theorem PhAt.sv (h : PhAt K E) : qWZ ty69 (.pointer (some ⟨E.jp, 5, none⟩)) K = some E.Sv := by simp only [qWZ, h.blk]; rfl
theorem PhAt.rv (h : PhAt K E) : qWZ ty69 (.pointer (some ⟨E.jp, 6, none⟩)) K = some E.Rv := by simp only [qWZ, h.blk]; rfl
theorem PhAt.fv (h : PhAt K E) : qWZ ty44 (.pointer (some ⟨E.jp, 7, none⟩)) K = some E.Fv := by simp only [qWZ, h.blk]; rfl
end
structure Box (K : Heap) (i : Nat) (v : Value) : Prop where
  blk : ∃ t, K i = some (.cells [v] 1 t true)
theorem Box.mono {K K' : Heap} {i : Nat} {v : Value} (h : Box K i v) (hl : Le K K') : Box K' i v := by
  obtain ⟨t, e⟩ := h.blk
  exact ⟨t, hl _ _ e⟩
theorem Box.ld {K : Heap} {i : Nat} {v : Value} (h : Box K i v) {ti : TI} (ht : ti.agg = false) : qWZ ti (qTZ i) K = some v := by
  obtain ⟨t, e⟩ := h.blk
  simp only [qWZ, qTZ, e, ht, Bool.false_eq_true, if_false]
  rfl
abbrev eMat : El (List (List Int)) := qXZ (qXZ (eInt .u64))
structure VSt (E : Ctx) (R H : Heap) (tg : Nat → Nat) (rd : Int) (views : List (List Ev)) (ts : List (List Int × Nat)) (S Rws : List (List (List (List Int)))) (Fl : List (List (List Int))) : Prop where
  lab : Lab R H tg
  net : NetB R (Pt tg 1) 98 H E.jn E.s E.cv E.dv E.tv E.tp rd views
  tap : TapB R (Pt tg 2) 136 H E.tp E.qs ts
  ph : PhAt R E
  q : Sl (qXZ (qXZ (eInt .u64))) R E.qv E.q
  gS : Grid eMat R (Pt tg 3) 27 44 H E.Sv S
  gR : Grid eMat R (Pt tg 4) 27 44 H E.Rv Rws
  gF : Grid (qXZ (eInt .u64)) R (Pt tg 5) 52 27 H E.Fv Fl
section
variable {E : Ctx} {R H R' H' N : Heap} {tg tg' : Nat → Nat} {rd rd' : Int} {views views' : List (List Ev)} {ts ts' : List (List Int × Nat)} {S S' Rws Rws' : List (List (List (List Int)))} {Fl Fl' : List (List (List Int))}
theorem Stays.fr {j : Nat} (st : Stays tg tg' H H' j) (hj : j ≠ 0) (l : Lab R' H' tg') : ∀ b, Pt tg j b → R' b = none := fun b hb => l.fr b (by
  rw [← st.1] at hb
  have : tg' b = j := hb
  omega)
theorem Stays.news {j : Nat} (hN : New H H' N) : Stays tg tg H H' j := ⟨rfl, fun b c _ hc => hN.1 b c hc⟩
theorem NetB.stay {F : Nat → Prop} {jn : Nat} {s : Scn} {cv dv tv tp : Value} {tn : TypeId} {j : Nat} (h : NetB R (Pt tg j) tn H jn s cv dv tv tp rd views) (hj : j ≠ 0) (l : Lab R' H' tg') (lR : Le R R') (st : Stays tg tg' H H' j) : NetB R' (Pt tg' j) tn H' jn s cv dv tv tp rd views := by
  rw [st.1]
  exact h.keep lR l.le (fun b c hb hc => st.2 b c hb hc) (st.fr hj l)
theorem TapB.stay {tt : TypeId} {tp : Value} {qs : List Nat} {j : Nat} (h : TapB R (Pt tg j) tt H tp qs ts) (lR : Le R R') (st : Stays tg tg' H H' j) : TapB R' (Pt tg' j) tt H' tp qs ts := by
  rw [st.1]
  exact h.keep lR fun b c hb hc => st.2 b c hb hc
theorem Grid.stay {α : Type} {e : El α} {ei eo : TypeId} {v : Value} {xss : List (List α)} {j : Nat} (h : Grid e R (Pt tg j) ei eo H v xss) (lR : Le R R') (st : Stays tg tg' H H' j) : Grid e R' (Pt tg' j) ei eo H' v xss := by
  rw [st.1]
  exact h.keep lR fun b c hb hc => st.2 b c hb hc
theorem VSt.stays (h : VSt E R H tg rd views ts S Rws Fl) (l : Lab R' H' tg') (lR : Le R R') (st : ∀ j, 1 ≤ j → j ≤ 5 → Stays tg tg' H H' j) : VSt E R' H' tg' rd views ts S Rws Fl :=
  ⟨l, h.net.stay (F := fun _ => True) (by decide) l lR (st 1 (by decide) (by decide)), h.tap.stay lR (st 2 (by decide) (by decide)), h.ph.mono lR, h.q.mono lR, h.gS.stay lR (st 3 (by decide) (by decide)), h.gR.stay lR (st 4 (by decide) (by decide)), h.gF.stay lR (st 5 (by decide) (by decide))⟩
theorem VSt.news (h : VSt E R H tg rd views ts S Rws Fl) (hN : New H H' N) : VSt E (hun R N) H' tg rd views ts S Rws Fl := h.stays (h.lab.news hN) (qNZ _ _) fun j _ _ => Stays.news hN
def Others (i : Nat) (tg tg' : Nat → Nat) (H H' : Heap) : Prop := ∀ j, j ≠ 0 → j ≠ i → Stays tg tg' H H' j
theorem VSt.mvTap {F' : Nat → Prop} (h : VSt E R H tg rd views ts S Rws Fl) (m : Mv R H (Pt tg 2) R' H' F') (k : TapB R' F' 136 H' E.tp E.qs ts') : ∃ tg', VSt E R' H' tg' rd views ts' S Rws Fl ∧ Others 2 tg tg' H H' := by
  obtain ⟨tg', l, e, st⟩ := h.lab.move (by decide) m
  refine ⟨tg', ⟨l, h.net.stay (F := fun _ => True) (by decide) l m.r (st 1 (by decide) (by decide)), by rw [e]; exact k, h.ph.mono m.r, h.q.mono m.r, h.gS.stay m.r (st 3 (by decide) (by decide)), h.gR.stay m.r (st 4 (by decide) (by decide)), h.gF.stay m.r (st 5 (by decide) (by decide))⟩, st⟩
theorem VSt.mvNet {F' : Nat → Prop} (h : VSt E R H tg rd views ts S Rws Fl) (m : Mv R H (Pt tg 1) R' H' F') (k : NetB R' F' 98 H' E.jn E.s E.cv E.dv E.tv E.tp rd' views') : ∃ tg', VSt E R' H' tg' rd' views' ts S Rws Fl ∧ Others 1 tg tg' H H' := by
  obtain ⟨tg', l, e, st⟩ := h.lab.move (by decide) m
  refine ⟨tg', ⟨l, by rw [e]; exact k, h.tap.stay m.r (st 2 (by decide) (by decide)), h.ph.mono m.r, h.q.mono m.r, h.gS.stay m.r (st 3 (by decide) (by decide)), h.gR.stay m.r (st 4 (by decide) (by decide)), h.gF.stay m.r (st 5 (by decide) (by decide))⟩, st⟩
theorem VSt.mvS {F' : Nat → Prop} (h : VSt E R H tg rd views ts S Rws Fl) (m : Mv R H (Pt tg 3) R' H' F') (k : Grid eMat R' F' 27 44 H' E.Sv S') : ∃ tg', VSt E R' H' tg' rd views ts S' Rws Fl ∧ Others 3 tg tg' H H' := by
  obtain ⟨tg', l, e, st⟩ := h.lab.move (by decide) m
  refine ⟨tg', ⟨l, h.net.stay (F := fun _ => True) (by decide) l m.r (st 1 (by decide) (by decide)), h.tap.stay m.r (st 2 (by decide) (by decide)), h.ph.mono m.r, h.q.mono m.r, by rw [e]; exact k, h.gR.stay m.r (st 4 (by decide) (by decide)), h.gF.stay m.r (st 5 (by decide) (by decide))⟩, st⟩
theorem VSt.mvR {F' : Nat → Prop} (h : VSt E R H tg rd views ts S Rws Fl) (m : Mv R H (Pt tg 4) R' H' F') (k : Grid eMat R' F' 27 44 H' E.Rv Rws') : ∃ tg', VSt E R' H' tg' rd views ts S Rws' Fl ∧ Others 4 tg tg' H H' := by
  obtain ⟨tg', l, e, st⟩ := h.lab.move (by decide) m
  refine ⟨tg', ⟨l, h.net.stay (F := fun _ => True) (by decide) l m.r (st 1 (by decide) (by decide)), h.tap.stay m.r (st 2 (by decide) (by decide)), h.ph.mono m.r, h.q.mono m.r, h.gS.stay m.r (st 3 (by decide) (by decide)), by rw [e]; exact k, h.gF.stay m.r (st 5 (by decide) (by decide))⟩, st⟩
theorem VSt.mvF {F' : Nat → Prop} (h : VSt E R H tg rd views ts S Rws Fl) (m : Mv R H (Pt tg 5) R' H' F') (k : Grid (qXZ (eInt .u64)) R' F' 52 27 H' E.Fv Fl') : ∃ tg', VSt E R' H' tg' rd views ts S Rws Fl' ∧ Others 5 tg tg' H H' := by
  obtain ⟨tg', l, e, st⟩ := h.lab.move (by decide) m
  refine ⟨tg', ⟨l, h.net.stay (F := fun _ => True) (by decide) l m.r (st 1 (by decide) (by decide)), h.tap.stay m.r (st 2 (by decide) (by decide)), h.ph.mono m.r, h.q.mono m.r, h.gS.stay m.r (st 3 (by decide) (by decide)), h.gR.stay m.r (st 4 (by decide) (by decide)), by rw [e]; exact k⟩, st⟩
theorem VSt.mvOther {F' : Nat → Prop} {i : Nat} (h : VSt E R H tg rd views ts S Rws Fl) (hi : 6 ≤ i) (m : Mv R H (Pt tg i) R' H' F') : ∃ tg', VSt E R' H' tg' rd views ts S Rws Fl ∧ Pt tg' i = F' ∧ Others i tg tg' H H' := by
  obtain ⟨tg', l, e, st⟩ := h.lab.move (by omega) m
  exact ⟨tg', h.stays l m.r fun j h1 h2 => st j (by omega) (by omega), e, st⟩
end
theorem each_spec {H : Heap} {jp n : Nat} {fid : Nat} {caps : List Value} (I : Nat → Heap → Prop) (hx : ext fid = none) (hn : qWZ ty3 (.pointer (some ⟨jp, 2, none⟩)) H = some (.int .i64 n)) (hnn : n ≤ 1000) (h0 : I 0 H)
    (hstep : ∀ i K, i < n → I i K → qVZ Tryd.prog fid ([.int .i64 i] ++ caps) K (Ret fun _ K' => I (i + 1) K')) : qVZ Tryd.prog 120 [qTZ jp, .func (.func fid) #[] caps.toArray] H (Ret fun _ H' => I n H') := by
  apply call120
  unfold m120
  (repeat (first | refine qQZ (qDZ _) ?_ | refine qQZ (qEZ _) ?_ | refine qQZ (qFZ _ _) ?_ | refine qQZ (qGZ _ _) ?_ | refine qQZ (by (try with_reducible first | refine gV_F ?_ | refine gV_T ?_); first | exact hn | exact q1Z _ _ | exact q2Z _ _ _ | exact q3Z _ | exact q4Z _ | exact q5Z _ _ _ | exact q6Z _ _ _ | exact q7Z _ _ _ | exact q8Z _ _ _ | exact q9Z _ _ _ | exact q0Z _ _ _ | exact qHZ (by omega) (by omega) | exact qIZ (by omega) (by omega) | exact qAZ _ | exact qBZ _ _ _ | exact qCZ _ _ _) ?_ | refine qQZ (gV_F rfl) ?_ | refine qQZ (gV_T rfl) ?_))
  suffices key : ∀ (d i : Nat) (K : Heap), n - i = d → i ≤ n → I i K → L120_1 (.func (.func fid) #[] caps.toArray) (.int .i64 n) (.int .i64 i) K _ _ from key _ 0 H rfl (by omega) h0
  intro d
  induction d with
  | zero =>
    intro i K hd hi h
    apply L120_1_round
    unfold m120_2
    (repeat (first | refine qQZ (qDZ _) ?_ | refine qQZ (qEZ _) ?_ | refine qQZ (qFZ _ _) ?_ | refine qQZ (qGZ _ _) ?_ | refine qQZ (by (try with_reducible first | refine gV_F ?_ | refine gV_T ?_); first | exact q1Z _ _ | exact q2Z _ _ _ | exact q3Z _ | exact q4Z _ | exact q5Z _ _ _ | exact q6Z _ _ _ | exact q7Z _ _ _ | exact q8Z _ _ _ | exact q9Z _ _ _ | exact q0Z _ _ _ | exact qHZ (by omega) (by omega) | exact qIZ (by omega) (by omega) | exact qAZ _ | exact qBZ _ _ _ | exact qCZ _ _ _) ?_ | refine qQZ (gV_F rfl) ?_ | refine qQZ (gV_T rfl) ?_))
    refine qJZ (fun hlt => absurd hlt (by omega)) (fun _ => ?_)
    have e : i = n := by omega
    subst e
    exact h
  | succ d ih =>
    intro i K hd hi h
    apply L120_1_round
    unfold m120_2
    (repeat (first | refine qQZ (qDZ _) ?_ | refine qQZ (qEZ _) ?_ | refine qQZ (qFZ _ _) ?_ | refine qQZ (qGZ _ _) ?_ | refine qQZ (by (try with_reducible first | refine gV_F ?_ | refine gV_T ?_); first | exact q1Z _ _ | exact q2Z _ _ _ | exact q3Z _ | exact q4Z _ | exact q5Z _ _ _ | exact q6Z _ _ _ | exact q7Z _ _ _ | exact q8Z _ _ _ | exact q9Z _ _ _ | exact q0Z _ _ _ | exact qHZ (by omega) (by omega) | exact qIZ (by omega) (by omega) | exact qAZ _ | exact qBZ _ _ _ | exact qCZ _ _ _) ?_ | refine qQZ (gV_F rfl) ?_ | refine qQZ (gV_T rfl) ?_))
    refine qJZ (fun hlt => ?_) (fun hlt => absurd (by omega) hlt)
    refine oCl_ret (args := [.int .i64 i]) hx (R := fun _ K' => I (i + 1) K') ?_ fun v K' hI => ?_
    · simpa using hstep i K (by omega) h
    · (repeat (first | refine qQZ (qDZ _) ?_ | refine qQZ (qEZ _) ?_ | refine qQZ (qFZ _ _) ?_ | refine qQZ (qGZ _ _) ?_ | refine qQZ (by (try with_reducible first | refine gV_F ?_ | refine gV_T ?_); first | exact q1Z _ _ | exact q2Z _ _ _ | exact q3Z _ | exact q4Z _ | exact q5Z _ _ _ | exact q6Z _ _ _ | exact q7Z _ _ _ | exact q8Z _ _ _ | exact q9Z _ _ _ | exact q0Z _ _ _ | exact qHZ (by omega) (by omega) | exact qIZ (by omega) (by omega) | exact qAZ _ | exact qBZ _ _ _ | exact qCZ _ _ _) ?_ | refine qQZ (gV_F rfl) ?_ | refine qQZ (gV_T rfl) ?_))
      exact ih (i + 1) K' (by omega) (by omega) hI
def restN (t : Int) : Nat := if t = 1 then 1 else 3
def mats (t : Int) (w : List Int) (q : List (List Int)) : List (List (List Int)) := (List.range q.length).map fun k => newM (q.getD k []) ((w.drop (k * restN t)).take (restN t))
def matsA (s : Scn) (q : List (List (List Int))) : List (List (List (List Int))) := (List.range q.length).map fun d => mats s.T (s.tapes.getD d []) (q.getD d [])
def tapG (s : Scn) (q : List (List (List Int))) (i k : Nat) : List (List Int × Nat) := (List.range s.tapes.length).map fun d => (s.tapes.getD d [], if d < i then (q.getD d []).length * restN s.T else if d = i then k * restN s.T else 0)
structure DealOk (s : Scn) (q : List (List (List Int))) : Prop where
  v : ScnV s
  n7 : s.N ≤ 7
  ql : (q.length : Int) = s.N
  q3 : ∀ d, d < q.length → (q.getD d []).length ≤ 3
  qw : ∀ d, d < q.length → ∀ f ∈ q.getD d [], (f.length : Int) = s.T + 1 ∧ rng s.P f
  tw : ∀ d, d < q.length → (q.getD d []).length * restN s.T ≤ (s.tapes.getD d []).length
  tr : ∀ d, rng s.P (s.tapes.getD d [])
  tl : ∀ d, (s.tapes.getD d []).length ≤ 1000
section
variable {s : Scn} {q : List (List (List Int))}
theorem DealOk.t (h : DealOk s q) : s.T = 1 ∨ s.T = 2 := by
  obtain ⟨_, _, _, _, h1, _, h2⟩ := h.v.par
  have := h.n7
  omega
theorem DealOk.tlen (h : DealOk s q) : s.tapes.length = q.length := by
  have h1 := h.v.len
  have h2 := h.ql
  omega
theorem DealOk.newOk (h : DealOk s q) {d k : Nat} (hd : d < q.length) (hk : k < (q.getD d []).length) : newOk ((q.getD d []).getD k []) (((s.tapes.getD d []).drop (k * restN s.T)).take (restN s.T)) := by
  have e : (q.getD d []).getD k [] = (q.getD d [])[k] := p6Z hk
  have h1 := (h.qw d hd _ (List.getElem_mem hk)).1
  have h2 := h.tw d hd
  rw [e]
  have h3 : (k + 1) * restN s.T ≤ (q.getD d []).length * restN s.T := Nat.mul_le_mul_right _ hk
  rw [Nat.succ_mul] at h3
  have h4 : (((s.tapes.getD d []).drop (k * restN s.T)).take (restN s.T)).length = restN s.T := by
    rw [List.length_take, List.length_drop]
    omega
  unfold SL.newOk
  rw [h4]
  rcases h.t with ht | ht
  · rw [ht] at h1
    exact .inl ⟨by omega, by rw [ht]; rfl⟩
  · rw [ht] at h1
    exact .inr ⟨by omega, by rw [ht]; rfl⟩
theorem mats_len (t : Int) (w : List Int) (q : List (List Int)) : (mats t w q).length = q.length := by simp [mats]
theorem matsA_len : (matsA s q).length = q.length := by simp [matsA]
theorem matsA_at {d : Nat} (hd : d < q.length) : (matsA s q).getD d [] = mats s.T (s.tapes.getD d []) (q.getD d []) := by
  rw [List.getD_eq_getElem?_getD]
  simp [matsA, hd]
theorem mats_at {t : Int} {w : List Int} {q : List (List Int)} {k : Nat} (hk : k < q.length) : (mats t w q)[k]'(by rw [mats_len]; exact hk) = newM (q.getD k []) ((w.drop (k * restN t)).take (restN t)) := by simp [mats]
theorem tapG_len {i k : Nat} : (tapG s q i k).length = s.tapes.length := by simp [tapG]
theorem tapG_at {i k d : Nat} (hd : d < s.tapes.length) : (tapG s q i k)[d]'(by rw [tapG_len]; exact hd) = (s.tapes.getD d [], if d < i then (q.getD d []).length * restN s.T else if d = i then k * restN s.T else 0) := by simp [tapG]
theorem tapG_push {i k : Nat} (hi : i < s.tapes.length) : (tapG s q i k).set i (s.tapes.getD i [], k * restN s.T + restN s.T) = tapG s q i (k + 1) := by
  apply List.ext_getElem (by simp [tapG_len])
  intro d h1 h2
  rw [List.length_set, tapG_len] at h1
  rw [tapG_at h1]
  by_cases e : i = d
  · subst e
    rw [List.getElem_set_self, if_neg (by omega), if_pos rfl, Nat.succ_mul]
  · rw [List.getElem_set_ne e, tapG_at h1]
    by_cases h3 : d < i
    · rw [if_pos h3, if_pos h3]
    · rw [if_neg h3, if_neg h3, if_neg (by omega), if_neg (by omega)]
theorem tapG_next {i : Nat} : tapG s q i (q.getD i []).length = tapG s q (i + 1) 0 := by
  apply List.ext_getElem (by simp [tapG_len])
  intro d h1 h2
  rw [tapG_len] at h1
  rw [tapG_at h1, tapG_at h1]
  by_cases h3 : d < i
  · rw [if_pos h3, if_pos (by omega)]
  · by_cases h4 : d = i
    · subst h4
      rw [if_neg h3, if_pos rfl, if_pos (by omega)]
    · rw [if_neg h3, if_neg h4, if_neg (by omega)]
      split <;> simp
theorem tapG_zero : tapG s q 0 0 = s.tapes.map fun w => (w, 0) := by
  apply List.ext_getElem (by simp [tapG_len])
  intro d h1 h2
  rw [tapG_len] at h1
  rw [tapG_at h1]
  simp [h1]
end
end

section
open Go

theorem Stays.trans {tg tg1 tg2 : Nat → Nat} {H H1 H2 : Heap} {j : Nat} (h : Stays tg tg1 H H1 j) (k : Stays tg1 tg2 H1 H2 j) : Stays tg tg2 H H2 j := ⟨k.1.trans h.1, fun b c hb hc => k.2 b c (by
  have e : Pt tg1 j b = Pt tg j b := congrFun h.1 b
  exact e.mpr hb) (h.2 b c hb hc)⟩
theorem Stays.refl (tg : Nat → Nat) (H : Heap) (j : Nat) : Stays tg tg H H j := ⟨rfl, fun b c _ h => h⟩
def After (R H : Heap) (tg : Nat → Nat) (lo : Nat) (φ : Heap → Heap → (Nat → Nat) → Prop) : Ending → Heap → Prop := Ret fun _ H' => ∃ R' tg', Le R R' ∧ φ R' H' tg' ∧ ∀ j, lo ≤ j → Stays tg tg' H H' j
theorem Off.leR {R H H' : Heap} {F : Nat → Prop} (h : Off F H H') (hl : Le R H) (h0 : ∀ b, F b → R b = none) : Le R H' := h.le hl h0
theorem newM_mem {first rest : List Int} {p : Int} (h : newOk first rest) (hf : rng p first) (hr : rng p rest) : SqM p (newM first rest) ∧ (newM first rest).length = first.length := by
  rcases h with ⟨h1, h2⟩ | ⟨h1, h2⟩
  · obtain ⟨a, b, rfl⟩ := len2 h1
    obtain ⟨c, rfl⟩ := len1 h2
    have ha := hf a (by simp)
    have hb := hf b (by simp)
    have hc := hr c (by simp)
    refine ⟨⟨fun r hr => ?_, fun r hr x hx => ?_⟩, rfl⟩
    · simp only [newM, List.mem_cons, List.not_mem_nil, or_false] at hr
      rcases hr with rfl | rfl <;> rfl
    · simp only [newM, List.mem_cons, List.not_mem_nil, or_false] at hr
      rcases hr with rfl | rfl <;> simp only [List.mem_cons, List.not_mem_nil, or_false] at hx <;> rcases hx with rfl | rfl <;> assumption
  · obtain ⟨a, b, c, rfl⟩ := len3 h1
    obtain ⟨d, e, f, rfl⟩ := len3 h2
    have ha := hf a (by simp)
    have hb := hf b (by simp)
    have hc := hf c (by simp)
    have hd := hr d (by simp)
    have he := hr e (by simp)
    have hff := hr f (by simp)
    refine ⟨⟨fun r hr => ?_, fun r hr x hx => ?_⟩, rfl⟩
    · simp only [newM, List.mem_cons, List.not_mem_nil, or_false] at hr
      rcases hr with rfl | rfl | rfl <;> rfl
    · simp only [newM, List.mem_cons, List.not_mem_nil, or_false] at hr
      rcases hr with rfl | rfl | rfl <;> simp only [List.mem_cons, List.not_mem_nil, or_false] at hx <;> rcases hx with rfl | rfl | rfl <;> assumption
theorem rest_eq {t : Int} (h : t = 1 ∨ t = 2) : ∃ v1 v2 : Value, vInt .add (.int .i64 t) (.int .i64 1) = some v1 ∧ vInt .mul (.int .i64 t) v1 = some v2 ∧ vInt .quo v2 (.int .i64 2) = some (.int .i64 (restN t)) := by
  rcases h with rfl | rfl
  · exact ⟨.int .i64 2, .int .i64 2, rfl, rfl, rfl⟩
  · exact ⟨.int .i64 3, .int .i64 6, rfl, rfl, rfl⟩
section
variable {E : Ctx} {R H : Heap} {tg : Nat → Nat} {rd : Int} {views : List (List Ev)} {Rws : List (List (List (List Int)))} {Fl : List (List (List Int))} {i b : Nat}
theorem choose1_spec (hD : DealOk E.s E.q) (h : VSt E R H tg rd views (tapG E.s E.q i 0) (fillG (matsA E.s E.q) i 0) Rws Fl) (hb : Box R b (qTZ E.jp)) (hi : i < E.q.length) :
    qVZ Tryd.prog 121 [.int .i64 i, qTZ b] H (After R H tg 6 fun R' H' tg' => VSt E R' H' tg' rd views (tapG E.s E.q (i + 1) 0) (fillG (matsA E.s E.q) (i + 1) 0) Rws Fl) := by
  have hql := hD.ql
  have hn7 := hD.n7
  have htl := hD.tlen
  apply call121
  unfold m121
  have hl := h.lab.le
  have ph := h.ph.mono hl
  obtain ⟨pq, u, q1, q2, q3⟩ := h.q.row hi (ti := ty27) rfl
  have eq : E.q.getD i [] = E.q[i] := p6Z hi
  have hq3 := hD.q3 i hi
  (repeat (first | refine qQZ (qDZ _) ?_ | refine qQZ (qEZ _) ?_ | refine qQZ (qFZ _ _) ?_ | refine qQZ (qGZ _ _) ?_ | refine qQZ (by (try with_reducible first | refine gV_F ?_ | refine gV_T ?_); first | exact (hb.mono hl).ld rfl | exact ph.q | exact q1 | exact qKZ hl q2 | exact q3.len | exact q1Z _ _ | exact q2Z _ _ _ | exact q3Z _ | exact q4Z _ | exact q5Z _ _ _ | exact q6Z _ _ _ | exact q7Z _ _ _ | exact q8Z _ _ _ | exact q9Z _ _ _ | exact q0Z _ _ _ | exact qHZ (by omega) (by omega) | exact qIZ (by omega) (by omega) | exact qAZ _ | exact qBZ _ _ _ | exact qCZ _ _ _) ?_ | refine qQZ (gV_F rfl) ?_ | refine qQZ (gV_T rfl) ?_))
  suffices key : ∀ (d k : Nat) (R1 K : Heap) (tg1 : Nat → Nat), (E.q.getD i []).length - k = d → k ≤ (E.q.getD i []).length → Le R R1 → VSt E R1 K tg1 rd views (tapG E.s E.q i k) (fillG (matsA E.s E.q) i k) Rws Fl → (∀ j, 6 ≤ j → Stays tg tg1 H K j) →
      L121_1 (.int .i64 i) (qTZ b) u (.int .i64 E.q[i].length) (.int .i64 k) K _ _ from key _ 0 R H tg rfl (by omega) (Le.refl _) h fun j _ => Stays.refl _ _ _
  intro d
  induction d with
  | zero =>
    intro k R1 K tg1 hd hk lR h1 st
    apply L121_1_round
    unfold m121_2
    rw [eq] at hd hk
    (repeat (first | refine qQZ (qDZ _) ?_ | refine qQZ (qEZ _) ?_ | refine qQZ (qFZ _ _) ?_ | refine qQZ (qGZ _ _) ?_ | refine qQZ (by (try with_reducible first | refine gV_F ?_ | refine gV_T ?_); first | exact q1Z _ _ | exact q2Z _ _ _ | exact q3Z _ | exact q4Z _ | exact q5Z _ _ _ | exact q6Z _ _ _ | exact q7Z _ _ _ | exact q8Z _ _ _ | exact q9Z _ _ _ | exact q0Z _ _ _ | exact qHZ (by omega) (by omega) | exact qIZ (by omega) (by omega) | exact qAZ _ | exact qBZ _ _ _ | exact qCZ _ _ _) ?_ | refine qQZ (gV_F rfl) ?_ | refine qQZ (gV_T rfl) ?_))
    refine qJZ (fun hlt => absurd hlt (by omega)) (fun _ => ?_)
    refine ⟨R1, tg1, lR, ?_, st⟩
    have e : k = (E.q.getD i []).length := by rw [eq]; omega
    subst e
    have em : (E.q.getD i []).length = ((matsA E.s E.q).getD i []).length := by rw [matsA_at hi, mats_len]
    rw [tapG_next] at h1
    rw [em, fillG_next (by rw [matsA_len]; exact hi)] at h1
    exact h1
  | succ d ih =>
    intro k R1 K tg1 hd hk lR h1 st
    apply L121_1_round
    unfold m121_2
    have hkl : k < (E.q.getD i []).length := by omega
    have hkl' : k < E.q[i].length := by rw [← eq]; exact hkl
    (repeat (first | refine qQZ (qDZ _) ?_ | refine qQZ (qEZ _) ?_ | refine qQZ (qFZ _ _) ?_ | refine qQZ (qGZ _ _) ?_ | refine qQZ (by (try with_reducible first | refine gV_F ?_ | refine gV_T ?_); first | exact q1Z _ _ | exact q2Z _ _ _ | exact q3Z _ | exact q4Z _ | exact q5Z _ _ _ | exact q6Z _ _ _ | exact q7Z _ _ _ | exact q8Z _ _ _ | exact q9Z _ _ _ | exact q0Z _ _ _ | exact qHZ (by omega) (by omega) | exact qIZ (by omega) (by omega) | exact qAZ _ | exact qBZ _ _ _ | exact qCZ _ _ _) ?_ | refine qQZ (gV_F rfl) ?_ | refine qQZ (gV_T rfl) ?_))
    refine qJZ (fun hlt => ?_) (fun hlt => absurd (by omega) hlt)
    have hl1 := h1.lab.le
    have ph1 := h1.ph.mono hl1
    have hb1 := (hb.mono lR).mono hl1
    obtain ⟨pf, fv, f1, f2, f3⟩ := (q3.mono lR).row hkl' (ti := ty52) rfl
    obtain ⟨v1, v2, r1, r2, r3⟩ := rest_eq hD.t
    (repeat (first | refine qQZ (qDZ _) ?_ | refine qQZ (qEZ _) ?_ | refine qQZ (qFZ _ _) ?_ | refine qQZ (qGZ _ _) ?_ | refine qQZ (by (try with_reducible first | refine gV_F ?_ | refine gV_T ?_); first | exact f1 | exact qKZ hl1 f2 | exact hb1.ld rfl | exact ph1.jn | exact ph1.t | exact r1 | exact r2 | exact r3 | exact q1Z _ _ | exact q2Z _ _ _ | exact q3Z _ | exact q4Z _ | exact q5Z _ _ _ | exact q6Z _ _ _ | exact q7Z _ _ _ | exact q8Z _ _ _ | exact q9Z _ _ _ | exact q0Z _ _ _ | exact qHZ (by omega) (by omega) | exact qIZ (by omega) (by omega) | exact qAZ _ | exact qBZ _ _ _ | exact qCZ _ _ _) ?_ | refine qQZ (gV_F rfl) ?_ | refine qQZ (gV_T rfl) ?_))
    have hti : i < (tapG E.s E.q i k).length := by rw [tapG_len, htl]; exact hi
    obtain ⟨x, hx, tsp⟩ := tape_spec h1.net h1.tap hl1 hti
    refine oRC_val tsp ⟨ph1.t, hb1.ld rfl, ph1.t, hb1.ld rfl, ?_⟩
    have ea : (tapG E.s E.q i k)[i] = (E.s.tapes.getD i [], k * restN E.s.T) := by
      rw [tapG_at (by omega), if_neg (by omega), if_pos rfl]
    have htw := hD.tw i hi
    have h3 : (k + 1) * restN E.s.T ≤ (E.q.getD i []).length * restN E.s.T := Nat.mul_le_mul_right _ hkl
    rw [Nat.succ_mul] at h3
    have hr0 : 0 < restN E.s.T := by unfold restN; split <;> decide
    have htl2 := hD.tl i
    have fr2 : ∀ b, Pt tg1 2 b → R1 b = none := fun b hb => h1.lab.fr b (by have : tg1 b = 2 := hb; omega)
    have kn2 : ∀ b, Pt tg1 2 b → K b ≠ none := fun b hb => h1.lab.kn b (by have : tg1 b = 2 := hb; omega)
    refine p9Z (take_spec (n := restN E.s.T) h1.tap hl1 kn2 fr2 hti hx (by rw [ea]; show 0 < (E.s.tapes.getD i []).length; omega) (by rw [ea]; show k * restN E.s.T + restN E.s.T ≤ (E.s.tapes.getD i []).length; omega) (by rw [ea]; show (E.s.tapes.getD i []).length ≤ 1000000; omega)) fun v K2 hv => ?_
    obtain ⟨wv, rfl, w1, m2, t2⟩ := hv
    rw [ea] at w1 t2
    replace t2 : TapB R1 (Pt tg1 2) 136 K2 E.tp E.qs ((tapG E.s E.q i k).set i (E.s.tapes.getD i [], k * restN E.s.T + restN E.s.T)) := t2
    rw [tapG_push (by omega)] at t2
    obtain ⟨tg2, s2, o2⟩ := h1.mvTap m2 t2
    refine qQZ (v := wv) rfl (qQZ (v := .int .i64 0) rfl ?_)
    have hl2 := s2.lab.le
    have ef : (E.q.getD i []).getD k [] = E.q[i][k] := by rw [eq, p6Z hkl']
    have hnk := hD.newOk hi hkl
    rw [ef] at hnk
    refine p9Z (new2_spec (f3.mono hl2) (w1.mono hl2) hnk) fun v K3 hv => ?_
    obtain ⟨mv, N, rfl, hN, hmv⟩ := hv
    have s3 := s2.news hN
    have hl3 := s3.lab.le
    have ph3 := s3.ph.mono hl3
    have hb3 := ((hb.mono lR).mono (qNZ R1 N)).mono hl3
    refine qQZ (v := mv) rfl (qQZ (v := .int .i64 0) rfl ?_)
    have hmv' : Sl (qXZ (eInt .u64)) (hun R1 N) mv (newM E.q[i][k] (((E.s.tapes.getD i []).drop (k * restN E.s.T)).take (restN E.s.T))) := hmv.mono (hN.right hl2)
    have hmi : i < (matsA E.s E.q).length := by rw [matsA_len]; exact hi
    have hgi : (fillG (matsA E.s E.q) i k).getD i [] = ((matsA E.s E.q).getD i []).take k := fillG_get hmi
    have eml : ((matsA E.s E.q).getD i []).length = (E.q.getD i []).length := by rw [matsA_at hi, mats_len]
    have hmc : mv.cells.toList = [mv] ∧ mv.oneCell' = true := by obtain ⟨_, _, _, rfl, _⟩ := id hmv'; exact ⟨rfl, rfl⟩
    obtain ⟨ps, us, g1, g2, g3⟩ := s3.gS.push (te := ty27) (j := i) rfl hl3 (fun b hb => s3.lab.kn b (by have : tg2 b = 3 := hb; omega)) (fun b hb => s3.lab.fr b (by have : tg2 b = 3 := hb; omega)) (by decide) (by rw [fillG_len]; exact hmi) rfl rfl (by decide) (x := newM E.q[i][k] (((E.s.tapes.getD i []).drop (k * restN E.s.T)).take (restN E.s.T))) (w := mv) ⟨mv, rfl, hmv'⟩ hmc.1 hmc.2 (by rw [hgi, List.length_take]; omega)
    (repeat (first | refine qQZ (qDZ _) ?_ | refine qQZ (qEZ _) ?_ | refine qQZ (qFZ _ _) ?_ | refine qQZ (qGZ _ _) ?_ | refine qQZ (by (try with_reducible first | refine gV_F ?_ | refine gV_T ?_); first | exact hb3.ld rfl | exact ph3.sv | exact g1 | exact g2 _ rfl | exact q1Z _ _ | exact q2Z _ _ _ | exact q3Z _ | exact q4Z _ | exact q5Z _ _ _ | exact q6Z _ _ _ | exact q7Z _ _ _ | exact q8Z _ _ _ | exact q9Z _ _ _ | exact q0Z _ _ _ | exact qHZ (by omega) (by omega) | exact qIZ (by omega) (by omega) | exact qAZ _ | exact qBZ _ _ _ | exact qCZ _ _ _) ?_ | refine qQZ (gV_F rfl) ?_ | refine qQZ (gV_T rfl) ?_))
    refine g3 _ fun u' K4 K5 F' c1 c2 c3 c4 => ?_
    have hl4 : Le (hun R1 N) K4 := c1.leR hl3 (fun b hb => s3.lab.fr b (by have : tg2 b = 3 := hb; omega))
    have ph4 := s3.ph.mono hl4
    have hb4 := ((hb.mono lR).mono (qNZ R1 N)).mono hl4
    refine ⟨ph4.sv, hb4.ld rfl, qQZ g1 (p8Z c2 ?_)⟩
    obtain ⟨tg3, s4, o3⟩ := s3.mvS c3 c4
    (repeat (first | refine qQZ (qDZ _) ?_ | refine qQZ (qEZ _) ?_ | refine qQZ (qFZ _ _) ?_ | refine qQZ (qGZ _ _) ?_ | refine qQZ (by (try with_reducible first | refine gV_F ?_ | refine gV_T ?_); first | exact q1Z _ _ | exact q2Z _ _ _ | exact q3Z _ | exact q4Z _ | exact q5Z _ _ _ | exact q6Z _ _ _ | exact q7Z _ _ _ | exact q8Z _ _ _ | exact q9Z _ _ _ | exact q0Z _ _ _ | exact qHZ (by omega) (by omega) | exact qIZ (by omega) (by omega) | exact qAZ _ | exact qBZ _ _ _ | exact qCZ _ _ _) ?_ | refine qQZ (gV_F rfl) ?_ | refine qQZ (gV_T rfl) ?_))
    rw [hgi] at s4
    have ek : newM E.q[i][k] (((E.s.tapes.getD i []).drop (k * restN E.s.T)).take (restN E.s.T)) = ((matsA E.s E.q).getD i [])[k]'(by rw [eml]; exact hkl) := by
      have : (mats E.s.T (E.s.tapes.getD i []) (E.q.getD i []))[k]'(by rw [mats_len]; exact hkl) = _ := mats_at hkl
      rw [ef] at this
      rw [← this]
      congr 1
      exact (matsA_at hi).symm
    rw [ek, fillG_push hmi (by rw [eml]; exact hkl)] at s4
    exact ih (k + 1) (hun R1 N) K5 tg3 (by omega) (by omega) (lR.trans (qNZ _ _)) s4 fun j hj => (((st j hj).trans (o2 j (by omega) (by omega))).trans (Stays.news hN)).trans (o3 j (by omega) (by omega))
theorem choose_spec (hD : DealOk E.s E.q) (h : VSt E R H tg rd views (tapG E.s E.q 0 0) (fillG (matsA E.s E.q) 0 0) Rws Fl) :
    qVZ Tryd.prog 103 [qTZ E.jp] H (After R H tg 6 fun R' H' tg' => VSt E R' H' tg' rd views (tapG E.s E.q E.q.length 0) (fillG (matsA E.s E.q) E.q.length 0) Rws Fl) := by
  have hql := hD.ql
  have hn7 := hD.n7
  apply call103
  unfold m103
  show oNew [qTZ E.jp] 1 150 H _
  intro b hbn
  have hN := New.one (c := .cells [qTZ E.jp] 1 150 true) hbn
  have h1 := h.news hN
  have hb : Box (hun R (hone b (.cells [qTZ E.jp] 1 150 true))) b (qTZ E.jp) := ⟨150, by simp [hun, none_le h.lab.le hbn, hone]⟩
  have lR : Le R (hun R (hone b (.cells [qTZ E.jp] 1 150 true))) := qNZ _ _
  have hst : ∀ j, Stays tg tg H (hins H b (.cells [qTZ E.jp] 1 150 true)) j := fun j => Stays.news hN
  generalize hun R (hone b (.cells [qTZ E.jp] 1 150 true)) = R1 at h1 hb lR
  generalize hins H b (.cells [qTZ E.jp] 1 150 true) = H1 at h1 hst
  have hl := h1.lab.le
  refine qQZ ((hb.mono hl).ld rfl) ?_
  have hnN : qWZ ty3 (.pointer (some ⟨E.jp, 2, none⟩)) H1 = some (.int .i64 ((E.q.length : Nat) : Int)) := by rw [hql]; exact (h1.ph.mono hl).n
  refine p9Z (each_spec (n := E.q.length) (fid := 121) (caps := [qTZ b]) (I := fun i K => ∃ R2 tg2, Le R1 R2 ∧ VSt E R2 K tg2 rd views (tapG E.s E.q i 0) (fillG (matsA E.s E.q) i 0) Rws Fl ∧ ∀ j, 6 ≤ j → Stays tg tg2 H K j) rfl hnN (by omega) ⟨R1, tg, Le.refl _, h1, fun j _ => hst j⟩ fun i K hi hI => ?_) fun v K hK => ?_
  · obtain ⟨R2, tg2, l2, s2, st2⟩ := hI
    refine (choose1_spec hD s2 (hb.mono l2) hi).ret fun v K' hv => ?_
    obtain ⟨R3, tg3, l3, s3, st3⟩ := hv
    exact ⟨R3, tg3, l2.trans l3, s3, fun j hj => (st2 j hj).trans (st3 j hj)⟩
  · obtain ⟨R2, tg2, l2, s2, st2⟩ := hK
    exact ⟨R2, tg2, lR.trans l2, s2, st2⟩
end
end

section
open Go

theorem conv_u64 {x : Int} (h0 : 0 ≤ x) (h1 : x ≤ 18446744073709551615) : vConv (.int .u64) (.int .i64 x) = some (.int .u64 x) := by rw [qCZ, wrap_u64 h0 h1]
theorem box_new {z v : Value} {ti : TI} {t : TypeId} {H : Heap} {k : Nat → Heap → Prop} (hz : z.cells.toList = [z]) (hv : v.oneCell' = true) (ht : ti.agg = false) (hs : ti.size = 1) (hk : ∀ i, H i = none → k i (hins H i (.cells [v] 1 t true))) : oNew (Value.cells z).toList (Value.cells z).toList.length t H fun i H1 => oHeap (p2Z ti (qTZ i) v H1) fun H2 => k i H2 := by
  intro i hi
  rw [hz]
  have e : p2Z ti (qTZ i) v (hins H i (.cells [z] 1 t true)) = some (hins (hins H i (.cells [z] 1 t true)) i (.cells [v] 1 t true)) := by
    simp only [p2Z, qTZ, hins_self, stCells, ht, Bool.false_eq_true, if_false]
    rw [if_pos ⟨hs, hv, by simp⟩]
    rfl
  rw [hins_hins] at e
  exact p8Z e (hk i hi)
theorem Sl.cell {α : Type} {e : El α} {H : Heap} {v : Value} {xs : List α} (h : Sl e H v xs) : v.cells.toList = [v] ∧ v.oneCell' = true := by
  obtain ⟨_, _, _, rfl, _⟩ := h
  exact ⟨rfl, rfl⟩
theorem flat_succ {α β : Type} {l : List α} {f : α → List β} {c : Nat} (h : c < l.length) : ((l.take (c + 1)).map f).flatten = ((l.take c).map f).flatten ++ f l[c] := by
  rw [List.take_succ_eq_append_getElem h, List.map_append, List.flatten_append]
  simp
theorem map_succ {α β : Type} {l : List α} {f : α → β} {c : Nat} (h : c < l.length) : (l.take (c + 1)).map f = (l.take c).map f ++ [f l[c]] := by
  rw [List.take_succ_eq_append_getElem h, List.map_append]
  simp
section
variable {E : Ctx} {R H H' : Heap} {tg : Nat → Nat} {rd : Int} {views : List (List Ev)} {ts : List (List Int × Nat)} {S Rws : List (List (List (List Int)))} {Fl : List (List (List Int))} {i : Nat}
theorem VSt.part {F : Nat → Prop} (h : VSt E R H tg rd views ts S Rws Fl) (hi : 6 ≤ i) (hl : Le H H') (hn : ∀ b, ¬ Pt tg i b) (hF : ∀ b, F b → H b = none ∧ H' b ≠ none) : ∃ tg', VSt E R H' tg' rd views ts S Rws Fl ∧ Pt tg' i = F ∧ Others i tg tg' H H' := by
  obtain ⟨tg', l, e, st⟩ := h.lab.part (by omega) hl hn hF
  exact ⟨tg', h.stays l (Le.refl _) fun j h1 h2 => st j (by omega) (by omega), e, st⟩
theorem VSt.freeze (h : VSt E R H tg rd views ts S Rws Fl) (hi : 6 ≤ i) : ∃ G tg', VSt E G H tg' rd views ts S Rws Fl ∧ Le R G ∧ (∀ b c, Pt tg i b → H b = some c → G b = some c) ∧ (∀ b, ¬ Pt tg' i b) ∧ Others i tg tg' H H := by
  obtain ⟨G, tg', l, lG, kG, _, nG, st⟩ := h.lab.freeze (i := i) (by omega)
  exact ⟨G, tg', h.stays l lG fun j h1 h2 => st j (by omega) (by omega), lG, kG, nG, st⟩
theorem VSt.kn (h : VSt E R H tg rd views ts S Rws Fl) (hi : i ≠ 0) : ∀ b, Pt tg i b → H b ≠ none := fun b hb => h.lab.kn b (by have : tg b = i := hb; omega)
theorem VSt.fr (h : VSt E R H tg rd views ts S Rws Fl) (hi : i ≠ 0) : ∀ b, Pt tg i b → R b = none := fun b hb => h.lab.fr b (by have : tg b = i := hb; omega)
theorem Stays.none {tg tg' : Nat → Nat} {j : Nat} (h : Stays tg tg' H H' j) (hn : ∀ b, ¬ Pt tg j b) : ∀ b, ¬ Pt tg' j b := fun b hb => hn b (by rw [h.1] at hb; exact hb)
end
def rowsTo (p : Int) (Si : List (List (List Int))) (x : Int) : List Int := (Si.map fun m => rowL p x m).flatten
def outA (p : Int) (n : Nat) (S : List (List (List (List Int)))) : List (List (List Int)) := (List.range n).map fun (i : Nat) => (List.range n).map fun (j : Nat) => rowsTo p (S.getD i []) ((j : Int) + 1)
theorem outA_len {p : Int} {n : Nat} {S : List (List (List (List Int)))} : (outA p n S).length = n := by simp [outA]
theorem outA_at {p : Int} {n i : Nat} {S : List (List (List (List Int)))} (hi : i < n) : (outA p n S).getD i [] = (List.range n).map fun (j : Nat) => rowsTo p (S.getD i []) ((j : Int) + 1) := by
  rw [p6Z (by rw [outA_len]; exact hi)]
  simp [outA]
structure SOk (p : Int) (n w : Nat) (S : List (List (List (List Int)))) : Prop where
  len : S.length = n
  few : ∀ i, i < n → (S.getD i []).length ≤ 3
  sq : ∀ i, i < n → ∀ m ∈ S.getD i [], SqM p m ∧ m.length = w
theorem rowL_len {p x : Int} {m : List (List Int)} (h : SqM p m) : (rowL p x m).length = m.length := rowAcc_len h _ (Nat.le_refl _)
theorem rowL_rng {p x : Int} {m : List (List Int)} (hp : 0 < p) : rng p (rowL p x m) := rowAcc_rng hp _
theorem flat_len {α β : Type} {f : α → List β} {w : Nat} : ∀ {l : List α}, (∀ a ∈ l, (f a).length = w) → ((l.map f).flatten).length = l.length * w
  | [], _ => by simp
  | a :: l, h => by
    rw [List.map_cons, List.flatten_cons, List.length_append, h a (by simp), flat_len (fun b hb => h b (by simp [hb])), List.length_cons, Nat.succ_mul, Nat.add_comm]
section
variable {E : Ctx} {R H : Heap} {tg : Nat → Nat} {rd : Int} {views : List (List Ev)} {ts : List (List Int × Nat)} {S Rws : List (List (List (List Int)))} {Fl : List (List (List Int))} {i b c w : Nat}
theorem dist1_in {G : Heap} {u : Value} {Si : List (List (List Int))} {x : Nat} (hp : Supp E.s.P) (hu : Sl eMat G u Si) (hS : ∀ m ∈ Si, SqM E.s.P m ∧ m.length = w) (hw : w ≤ 10) (hf : Si.length ≤ 3) (hx : x ≤ 100) (hph : PhAt G E) (hb : Box G b (qTZ E.jp)) {x0 x2 : Value} {kn : Value → Value → Value → Value → Value → Heap → Prop} {kx1 : Value → Value → Value → Value → Heap → Prop} {kx0 : Heap → Prop} {Q : Ending → Heap → Prop}
    (hk : ∀ lv K, GI G K lv (rowsTo E.s.P Si x) → kn x0 (qTZ b) x2 (.int .i64 x) lv K) :
    ∀ (d c : Nat) (lv : Value) (K : Heap), Si.length - c = d → c ≤ Si.length → GI G K lv (((Si.take c).map fun m => rowL E.s.P x m).flatten) → L125_8 x0 (qTZ b) x2 (.int .i64 x) lv u (.int .i64 Si.length) (.int .i64 c) K kn kx1 kx0 Q := by
  have hpp := hp.pos
  intro d
  induction d with
  | zero =>
    intro c lv K hd hc h
    apply L125_8_round
    unfold m125_9
    (repeat (first | refine qQZ (qDZ _) ?_ | refine qQZ (qEZ _) ?_ | refine qQZ (qFZ _ _) ?_ | refine qQZ (qGZ _ _) ?_ | refine qQZ (by (try with_reducible first | refine gV_F ?_ | refine gV_T ?_); first | exact q1Z _ _ | exact q2Z _ _ _ | exact q3Z _ | exact q4Z _ | exact q5Z _ _ _ | exact q6Z _ _ _ | exact q7Z _ _ _ | exact q8Z _ _ _ | exact q9Z _ _ _ | exact q0Z _ _ _ | exact qHZ (by omega) (by omega) | exact qIZ (by omega) (by omega) | exact qAZ _ | exact qBZ _ _ _ | exact qCZ _ _ _) ?_ | refine qQZ (gV_F rfl) ?_ | refine qQZ (gV_T rfl) ?_))
    refine qJZ (fun hlt => absurd hlt (by omega)) (fun _ => hk lv K ?_)
    rw [List.take_of_length_le (by omega)] at h
    exact h
  | succ d ih =>
    intro c lv K hd hc h
    apply L125_8_round
    unfold m125_9
    (repeat (first | refine qQZ (qDZ _) ?_ | refine qQZ (qEZ _) ?_ | refine qQZ (qFZ _ _) ?_ | refine qQZ (qGZ _ _) ?_ | refine qQZ (by (try with_reducible first | refine gV_F ?_ | refine gV_T ?_); first | exact q1Z _ _ | exact q2Z _ _ _ | exact q3Z _ | exact q4Z _ | exact q5Z _ _ _ | exact q6Z _ _ _ | exact q7Z _ _ _ | exact q8Z _ _ _ | exact q9Z _ _ _ | exact q0Z _ _ _ | exact qHZ (by omega) (by omega) | exact qIZ (by omega) (by omega) | exact qAZ _ | exact qBZ _ _ _ | exact qCZ _ _ _) ?_ | refine qQZ (gV_F rfl) ?_ | refine qQZ (gV_T rfl) ?_))
    refine qJZ (fun hlt => ?_) (fun hlt => absurd (by omega) hlt)
    have hcl : c < Si.length := by omega
    obtain ⟨pm, mv, a1, a2, a3⟩ := hu.row hcl (ti := ty27) rfl
    have ph := hph.mono h.le
    (repeat (first | refine qQZ (qDZ _) ?_ | refine qQZ (qEZ _) ?_ | refine qQZ (qFZ _ _) ?_ | refine qQZ (qGZ _ _) ?_ | refine qQZ (by (try with_reducible first | refine gV_F ?_ | refine gV_T ?_); first | exact a1 | exact qKZ h.le a2 | exact (hb.mono h.le).ld rfl | exact ph.p | exact conv_u64 (x := (x : Int)) (by omega) (by omega) | exact q1Z _ _ | exact q2Z _ _ _ | exact q3Z _ | exact q4Z _ | exact q5Z _ _ _ | exact q6Z _ _ _ | exact q7Z _ _ _ | exact q8Z _ _ _ | exact q9Z _ _ _ | exact q0Z _ _ _ | exact qHZ (by omega) (by omega) | exact qIZ (by omega) (by omega) | exact qAZ _ | exact qBZ _ _ _ | exact qCZ _ _ _) ?_ | refine qQZ (gV_F rfl) ?_ | refine qQZ (gV_T rfl) ?_))
    obtain ⟨hsq, hml⟩ := hS _ (List.getElem_mem hcl)
    refine p9Z (row_spec (a3.mono h.le) hp hsq (by omega) (by omega) (by omega)) fun rv K1 hr => ?_
    have hlen : (((Si.take c).map fun m => rowL E.s.P x m).flatten).length ≤ 100000 := by
      rw [flat_len (w := w) (fun m hm => by rw [rowL_len (hS m (List.mem_of_mem_take hm)).1]; exact (hS m (List.mem_of_mem_take hm)).2)]
      have : (Si.take c).length * w ≤ 3 * 10 := Nat.mul_le_mul (by rw [List.length_take]; omega) hw
      omega
    refine GI.more (h.mono hr.le) hr.sl hlen (by rw [rowL_len hsq]; omega) fun lv' K2 h2 => ?_
    (repeat (first | refine qQZ (qDZ _) ?_ | refine qQZ (qEZ _) ?_ | refine qQZ (qFZ _ _) ?_ | refine qQZ (qGZ _ _) ?_ | refine qQZ (by (try with_reducible first | refine gV_F ?_ | refine gV_T ?_); first | exact q1Z _ _ | exact q2Z _ _ _ | exact q3Z _ | exact q4Z _ | exact q5Z _ _ _ | exact q6Z _ _ _ | exact q7Z _ _ _ | exact q8Z _ _ _ | exact q9Z _ _ _ | exact q0Z _ _ _ | exact qHZ (by omega) (by omega) | exact qIZ (by omega) (by omega) | exact qAZ _ | exact qBZ _ _ _ | exact qCZ _ _ _) ?_ | refine qQZ (gV_F rfl) ?_ | refine qQZ (gV_T rfl) ?_))
    refine ih (c + 1) lv' K2 (by omega) (by omega) ?_
    rw [flat_succ hcl]
    exact h2
theorem dist1_spec {n : Nat} {rv : Value} (hp : Supp E.s.P) (hn : E.s.N = n) (hn7 : n ≤ 7) (hw : w ≤ 10) (hS : SOk E.s.P n w S) (h : VSt E R H tg rd views ts S Rws Fl) (hb : Box R b (qTZ E.jp)) (hc : Box R c rv) (hg : Grid (qXZ (eInt .u64)) R (Pt tg 6) 52 27 H rv (fillG (outA E.s.P n S) i 0)) (hi : i < n) :
    qVZ Tryd.prog 125 [.int .i64 i, qTZ b, qTZ c] H (After R H tg 7 fun R' H' tg' => VSt E R' H' tg' rd views ts S Rws Fl ∧ Grid (qXZ (eInt .u64)) R' (Pt tg' 6) 52 27 H' rv (fillG (outA E.s.P n S) (i + 1) 0)) := by
  have hpp := hp.pos
  have hoi : i < (outA E.s.P n S).length := by rw [outA_len]; exact hi
  have eoi : ((outA E.s.P n S).getD i []).length = n := by rw [outA_at hi]; simp
  apply call125
  unfold m125
  suffices key : ∀ (d k : Nat) (R1 K : Heap) (tg1 : Nat → Nat), n - k = d → k ≤ n → Le R R1 → VSt E R1 K tg1 rd views ts S Rws Fl → Grid (qXZ (eInt .u64)) R1 (Pt tg1 6) 52 27 K rv (fillG (outA E.s.P n S) i k) → (∀ j, 7 ≤ j → Stays tg tg1 H K j) →
      L125_1 (.int .i64 i) (qTZ b) (qTZ c) (.int .i64 ((k : Int) + 1)) K _ _ from key _ 0 R H tg rfl (by omega) (Le.refl _) h hg fun j _ => Stays.refl _ _ _
  intro d
  induction d with
  | zero =>
    intro k R1 K tg1 hd hk lR h1 hg1 st
    have hl1 := h1.lab.le
    have ph1 := (h1.ph.mono hl1).n
    rw [hn] at ph1
    apply L125_1_round
    unfold m125_2
    (repeat (first | refine qQZ (qDZ _) ?_ | refine qQZ (qEZ _) ?_ | refine qQZ (qFZ _ _) ?_ | refine qQZ (qGZ _ _) ?_ | refine qQZ (by (try with_reducible first | refine gV_F ?_ | refine gV_T ?_); first | exact ((hb.mono lR).mono hl1).ld rfl | exact ph1 | exact q1Z _ _ | exact q2Z _ _ _ | exact q3Z _ | exact q4Z _ | exact q5Z _ _ _ | exact q6Z _ _ _ | exact q7Z _ _ _ | exact q8Z _ _ _ | exact q9Z _ _ _ | exact q0Z _ _ _ | exact qHZ (by omega) (by omega) | exact qIZ (by omega) (by omega) | exact qAZ _ | exact qBZ _ _ _ | exact qCZ _ _ _) ?_ | refine qQZ (gV_F rfl) ?_ | refine qQZ (gV_T rfl) ?_))
    refine qJZ (fun hlt => absurd hlt (by omega)) (fun _ => ?_)
    have e : k = ((outA E.s.P n S).getD i []).length := by omega
    subst e
    rw [fillG_next hoi] at hg1
    exact ⟨R1, tg1, lR, ⟨h1, hg1⟩, st⟩
  | succ d ih =>
    intro k R1 K tg1 hd hk lR h1 hg1 st
    have hl1 := h1.lab.le
    have ph1 := h1.ph.mono hl1
    have phn := ph1.n
    rw [hn] at phn
    have hb1 := (hb.mono lR).mono hl1
    apply L125_1_round
    unfold m125_2
    (repeat (first | refine qQZ (qDZ _) ?_ | refine qQZ (qEZ _) ?_ | refine qQZ (qFZ _ _) ?_ | refine qQZ (qGZ _ _) ?_ | refine qQZ (by (try with_reducible first | refine gV_F ?_ | refine gV_T ?_); first | exact hb1.ld rfl | exact phn | exact q1Z _ _ | exact q2Z _ _ _ | exact q3Z _ | exact q4Z _ | exact q5Z _ _ _ | exact q6Z _ _ _ | exact q7Z _ _ _ | exact q8Z _ _ _ | exact q9Z _ _ _ | exact q0Z _ _ _ | exact qHZ (by omega) (by omega) | exact qIZ (by omega) (by omega) | exact qAZ _ | exact qBZ _ _ _ | exact qCZ _ _ _) ?_ | refine qQZ (gV_F rfl) ?_ | refine qQZ (gV_T rfl) ?_))
    refine qJZ (fun hlt => ?_) (fun hlt => absurd (by omega) hlt)
    unfold m125_4 m125_5 m125_7
    obtain ⟨ps, u, s1, s2, s3⟩ := h1.gS.get rfl hl1 (j := i) (by rw [hS.len]; exact hi)
    (repeat (first | refine qQZ (qDZ _) ?_ | refine qQZ (qEZ _) ?_ | refine qQZ (qFZ _ _) ?_ | refine qQZ (qGZ _ _) ?_ | refine qQZ (by (try with_reducible first | refine gV_F ?_ | refine gV_T ?_); first | exact hb1.ld rfl | exact ph1.sv | exact s1 | exact s2 _ rfl | exact s3.len | exact q1Z _ _ | exact q2Z _ _ _ | exact q3Z _ | exact q4Z _ | exact q5Z _ _ _ | exact q6Z _ _ _ | exact q7Z _ _ _ | exact q8Z _ _ _ | exact q9Z _ _ _ | exact q0Z _ _ _ | exact qHZ (by omega) (by omega) | exact qIZ (by omega) (by omega) | exact qAZ _ | exact qBZ _ _ _ | exact qCZ _ _ _) ?_ | refine qQZ (gV_F rfl) ?_ | refine qQZ (gV_T rfl) ?_))
    have ek : ((k : Int) + 1) = ((k + 1 : Nat) : Int) := by omega
    rw [ek]
    refine dist1_in hp s3 (hS.sq i hi) hw (hS.few i hi) (by omega) ph1 hb1 (fun lv K1 hlv => ?_) _ 0 _ K rfl (by omega) (by simpa using GI.nil K)
    unfold m125_6
    obtain ⟨N, hN, hsl⟩ := hlv.made
    have h2 := h1.news hN
    have hl2 := h2.lab.le
    have hc2 := ((hc.mono lR).mono (qNZ R1 N)).mono hl2
    have hg2 := hg1.stay (qNZ R1 N) (Stays.news (tg := tg1) hN)
    have hkl : k < ((outA E.s.P n S).getD i []).length := by omega
    have hgi : (fillG (outA E.s.P n S) i k).getD i [] = ((outA E.s.P n S).getD i []).take k := fillG_get hoi
    have hlvR := hsl.mono (hN.right hl1)
    obtain ⟨pg, ug, g1, g2, g3⟩ := hg2.push (te := ty52) (j := i) rfl hl2 (h2.kn (by decide)) (h2.fr (by decide)) (by decide) (by rw [fillG_len]; exact hoi) rfl rfl (by decide) (x := rowsTo E.s.P (S.getD i []) ((k + 1 : Nat) : Int)) (w := lv) ⟨lv, rfl, hlvR⟩ hlvR.cell.1 hlvR.cell.2 (by rw [hgi, List.length_take]; omega)
    (repeat (first | refine qQZ (qDZ _) ?_ | refine qQZ (qEZ _) ?_ | refine qQZ (qFZ _ _) ?_ | refine qQZ (qGZ _ _) ?_ | refine qQZ (by (try with_reducible first | refine gV_F ?_ | refine gV_T ?_); first | exact hc2.ld rfl | exact g1 | exact g2 _ rfl | exact q1Z _ _ | exact q2Z _ _ _ | exact q3Z _ | exact q4Z _ | exact q5Z _ _ _ | exact q6Z _ _ _ | exact q7Z _ _ _ | exact q8Z _ _ _ | exact q9Z _ _ _ | exact q0Z _ _ _ | exact qHZ (by omega) (by omega) | exact qIZ (by omega) (by omega) | exact qAZ _ | exact qBZ _ _ _ | exact qCZ _ _ _) ?_ | refine qQZ (gV_F rfl) ?_ | refine qQZ (gV_T rfl) ?_))
    refine g3 _ fun u' K4 K5 F' c1 c2 c3 c4 => ?_
    have hl4 : Le (hun R1 N) K4 := c1.leR hl2 (h2.fr (by decide))
    have hc4 := ((hc.mono lR).mono (qNZ R1 N)).mono hl4
    refine ⟨hc4.ld rfl, qQZ g1 (p8Z c2 ?_)⟩
    unfold m125_3
    (repeat (first | refine qQZ (qDZ _) ?_ | refine qQZ (qEZ _) ?_ | refine qQZ (qFZ _ _) ?_ | refine qQZ (qGZ _ _) ?_ | refine qQZ (by (try with_reducible first | refine gV_F ?_ | refine gV_T ?_); first | exact q1Z _ _ | exact q2Z _ _ _ | exact q3Z _ | exact q4Z _ | exact q5Z _ _ _ | exact q6Z _ _ _ | exact q7Z _ _ _ | exact q8Z _ _ _ | exact q9Z _ _ _ | exact q0Z _ _ _ | exact qHZ (by omega) (by omega) | exact qIZ (by omega) (by omega) | exact qAZ _ | exact qBZ _ _ _ | exact qCZ _ _ _) ?_ | refine qQZ (gV_F rfl) ?_ | refine qQZ (gV_T rfl) ?_))
    obtain ⟨tg2, h3, e3, o3⟩ := h2.mvOther (by decide) c3
    rw [hgi] at c4
    have ex : rowsTo E.s.P (S.getD i []) ((k + 1 : Nat) : Int) = ((outA E.s.P n S).getD i [])[k]'hkl := by
      have : ((List.range n).map fun (j : Nat) => rowsTo E.s.P (S.getD i []) ((j : Int) + 1))[k]'(by simp; omega) = rowsTo E.s.P (S.getD i []) ((k + 1 : Nat) : Int) := by rw [List.getElem_map, List.getElem_range]; rfl
      rw [← this]
      congr 1
      exact (outA_at hi).symm
    rw [ex, fillG_push hoi hkl, ← e3] at c4
    exact ih (k + 1) (hun R1 N) K5 tg2 (by omega) (by omega) (lR.trans (qNZ _ _)) h3 c4 fun j hj => ((st j hj).trans (Stays.news hN)).trans (o3 j (by omega) (by omega))
end
end

section
open Go

theorem mul_nat {a b : Nat} (h : a * b ≤ 1000000) : vInt .mul (.int .i64 a) (.int .i64 b) = some (.int .i64 ((a * b : Nat) : Int)) := by
  rw [vInt_mul, ← Int.natCast_mul]
  generalize a * b = c at *
  rw [pBZ (by omega) (by omega)]
theorem add_nat {a b : Nat} (h : a + b ≤ 1000001) : vInt .add (.int .i64 a) (.int .i64 b) = some (.int .i64 ((a + b : Nat) : Int)) := by
  rw [vInt_add, ← Int.natCast_add]
  generalize a + b = c at *
  rw [pBZ (by omega) (by omega)]
theorem add_one {a : Nat} (h : a ≤ 1000000) : vInt .add (.int .i64 a) (.int .i64 1) = some (.int .i64 ((a + 1 : Nat) : Int)) := add_nat (a := a) (b := 1) (show a + 1 ≤ 1000001 by omega)
def RwE (G R K : Heap) (v : Value) (rows : List (List Int)) : Prop := ∃ us, us.length = rows.length ∧ Grown G K 1 52 v rows.length us ∧ ∀ (j : Nat) u r, us[j]? = some u → rows[j]? = some r → Sl (eInt .u64) R u r
section
variable {G R K K' : Heap} {v : Value} {rows : List (List Int)}
theorem RwE.nil (G R : Heap) : RwE G R G (.slice none 0 0) [] := ⟨[], rfl, Grown.nil _ _ _, fun j u r h => by simp at h⟩
theorem RwE.le (h : RwE G R K v rows) : Le G K := by
  obtain ⟨us, h1, h2, h3⟩ := h
  exact h2.1
theorem RwE.snoc {u : Value} {r : List Int} {k : Value → Heap → Prop} (h : RwE G R K v rows) (hu : Sl (eInt .u64) R u r) (hl : rows.length ≤ 1000000) (hk : ∀ v' K', RwE G R K' v' (rows ++ [r]) → k v' K') : p3Z ty52 52 1 [((0, 1), u)] K fun s H1 => p4Z ty52 52 v s H1 k := by
  obtain ⟨us, h1, h2, h3⟩ := h
  obtain ⟨c1, c2⟩ := hu.cell
  refine Grown.append (te := ty52) h2 rfl (by show u.cells.size = 1; have := congrArg List.length c1; simpa using this) (fun c hc => by rw [c1] at hc; rw [List.mem_singleton.1 hc]; exact c2) (by decide) (by show (rows.length + 1) * 24 ≤ _; omega) (by omega) fun v' K' hg => hk v' K' ⟨us ++ [u], by simp [h1], ?_, fun j x y hx hy => ?_⟩
  · rw [List.length_append]
    rw [c1] at hg
    exact hg
  · by_cases e : j < rows.length
    · rw [List.getElem?_append_left (by omega)] at hx hy
      exact h3 j x y hx hy
    · rw [List.getElem?_append_right (by omega)] at hx hy
      have e0 : j - rows.length = 0 := by
        by_cases e0 : j - rows.length = 0
        · exact e0
        · rw [List.getElem?_eq_none (by simp; omega)] at hy; cases hy
      rw [h1, e0] at hx
      rw [e0] at hy
      cases hx
      cases hy
      exact hu
theorem RwE.made (h : RwE G R K v rows) : ∃ N, New G K N ∧ ∀ R', Le R R' → Le N R' → Sl (qXZ (eInt .u64)) R' v rows := by
  obtain ⟨us, h1, h2, h3⟩ := h
  obtain ⟨N, hN, ho⟩ := h2.made1
  refine ⟨N, hN, fun R' l1 l2 => ?_⟩
  have ho' : Own 1 52 R' v rows.length us := ho.mono fun b hb => by
    obtain ⟨_, _, e⟩ := ho.at_ hb
    rw [e, l2 _ _ e]
  exact rows_sl ho' fun j hj => ⟨us[j]'(by omega), List.getElem?_eq_getElem _, (h3 j _ _ (List.getElem?_eq_getElem _) (List.getElem?_eq_getElem hj)).mono l1⟩
end
def chunks (w n : Nat) (l : List Int) : List (List Int) := (List.range n).map fun (k : Nat) => (l.drop (k * w)).take w
theorem chunks_len {w n : Nat} {l : List Int} : (chunks w n l).length = n := by simp [chunks]
theorem chunks_at {w n k : Nat} {l : List Int} (hk : k < n) : (chunks w n l)[k]'(by rw [chunks_len]; exact hk) = (l.drop (k * w)).take w := by simp [chunks]
def rowsIn (w : Nat) (q : List (List (List Int))) (hd : List (List Int)) : List (List (List Int)) := (List.range q.length).map fun (d : Nat) => chunks w (q.getD d []).length (rsz (hd.getD d []) ((q.getD d []).length * w))
def rowsA (w : Nat) (q : List (List (List Int))) (heard : List (List (List Int))) : List (List (List (List Int))) := (List.range q.length).map fun (i : Nat) => rowsIn w q (heard.getD i [])
theorem rowsIn_len {w : Nat} {q : List (List (List Int))} {hd : List (List Int)} : (rowsIn w q hd).length = q.length := by simp [rowsIn]
theorem rowsA_len {w : Nat} {q : List (List (List Int))} {heard : List (List (List Int))} : (rowsA w q heard).length = q.length := by simp [rowsA]
theorem rowsA_at {w i : Nat} {q : List (List (List Int))} {heard : List (List (List Int))} (hi : i < q.length) : (rowsA w q heard).getD i [] = rowsIn w q (heard.getD i []) := by
  rw [p6Z (by rw [rowsA_len]; exact hi)]
  simp [rowsA]
theorem rowsIn_at {w d : Nat} {q : List (List (List Int))} {hd : List (List Int)} (h : d < q.length) : (rowsIn w q hd)[d]'(by rw [rowsIn_len]; exact h) = chunks w (q.getD d []).length (rsz (hd.getD d []) ((q.getD d []).length * w)) := by simp [rowsIn]
section
variable {E : Ctx} {R H : Heap} {tg : Nat → Nat} {rd : Int} {views : List (List Ev)} {ts : List (List Int × Nat)} {S Rws : List (List (List (List Int)))} {Fl : List (List (List Int))} {i b c w n : Nat}
theorem dist2_in {G R1 : Heap} {lv : Value} {l : List Int} (hlG : Le R1 G) (hl : Sl (eInt .u64) R1 lv l) (hw0 : 0 < w) (hw : w ≤ 10) (hn : n ≤ 10) (hll : l.length = n * w) (hc : Box R1 c (.int .i64 w)) {x0 x1 x2 x13 x14 x15 : Value} {kn : Value → Value → Value → Value → Value → Value → Value → Value → Heap → Prop} {kx1 : Value → Value → Value → Value → Value → Value → Value → Heap → Prop} {kx0 : Heap → Prop} {Q : Ending → Heap → Prop}
    (hk : ∀ v K, RwE G R1 K v (chunks w n l) → kn x0 x1 x2 (qTZ c) v x13 x14 x15 K) :
    ∀ (d k : Nat) (v : Value) (K : Heap), n - k = d → k ≤ n → RwE G R1 K v ((chunks w n l).take k) → L127_8 x0 x1 x2 (qTZ c) lv v x13 x14 x15 (.int .i64 n) (.int .i64 k) K kn kx1 kx0 Q := by
  intro d
  induction d with
  | zero =>
    intro k v K hd hk2 h
    apply L127_8_round
    unfold m127_9
    (repeat (first | refine qQZ (qDZ _) ?_ | refine qQZ (qEZ _) ?_ | refine qQZ (qFZ _ _) ?_ | refine qQZ (qGZ _ _) ?_ | refine qQZ (by (try with_reducible first | refine gV_F ?_ | refine gV_T ?_); first | exact q1Z _ _ | exact q2Z _ _ _ | exact q3Z _ | exact q4Z _ | exact q5Z _ _ _ | exact q6Z _ _ _ | exact q7Z _ _ _ | exact q8Z _ _ _ | exact q9Z _ _ _ | exact q0Z _ _ _ | exact qHZ (by omega) (by omega) | exact qIZ (by omega) (by omega) | exact qAZ _ | exact qBZ _ _ _ | exact qCZ _ _ _) ?_ | refine qQZ (gV_F rfl) ?_ | refine qQZ (gV_T rfl) ?_))
    refine qJZ (fun hlt => absurd hlt (by omega)) (fun _ => hk v K ?_)
    rw [List.take_of_length_le (by rw [chunks_len]; omega)] at h
    exact h
  | succ d ih =>
    intro k v K hd hk2 h
    apply L127_8_round
    unfold m127_9
    (repeat (first | refine qQZ (qDZ _) ?_ | refine qQZ (qEZ _) ?_ | refine qQZ (qFZ _ _) ?_ | refine qQZ (qGZ _ _) ?_ | refine qQZ (by (try with_reducible first | refine gV_F ?_ | refine gV_T ?_); first | exact q1Z _ _ | exact q2Z _ _ _ | exact q3Z _ | exact q4Z _ | exact q5Z _ _ _ | exact q6Z _ _ _ | exact q7Z _ _ _ | exact q8Z _ _ _ | exact q9Z _ _ _ | exact q0Z _ _ _ | exact qHZ (by omega) (by omega) | exact qIZ (by omega) (by omega) | exact qAZ _ | exact qBZ _ _ _ | exact qCZ _ _ _) ?_ | refine qQZ (gV_F rfl) ?_ | refine qQZ (gV_T rfl) ?_))
    refine qJZ (fun hlt => ?_) (fun hlt => absurd (by omega) hlt)
    have hle := h.le
    have hcK := (hc.mono hlG).mono hle
    have hkn : k < n := by omega
    have b1 : (k + 1) * w ≤ n * w := Nat.mul_le_mul_right _ hkn
    have b2 : n * w ≤ 10 * 10 := Nat.mul_le_mul hn hw
    have b3 : (k + 1) * w = k * w + w := Nat.succ_mul _ _
    obtain ⟨sv, s1, s2⟩ := hl.part (k1 := .i64) (k2 := .i64) (a := k * w) (b := (k + 1) * w) (by omega) (by omega) (by omega)
    (repeat (first | refine qQZ (qDZ _) ?_ | refine qQZ (qEZ _) ?_ | refine qQZ (qFZ _ _) ?_ | refine qQZ (qGZ _ _) ?_ | refine qQZ (by (try with_reducible first | refine gV_F ?_ | refine gV_T ?_); first | exact hcK.ld rfl | exact mul_nat (a := k) (b := w) (by omega) | exact add_one (a := k) (by omega) | exact mul_nat (a := k + 1) (b := w) (by omega) | exact s1 | exact q1Z _ _ | exact q2Z _ _ _ | exact q3Z _ | exact q4Z _ | exact q5Z _ _ _ | exact q6Z _ _ _ | exact q7Z _ _ _ | exact q8Z _ _ _ | exact q9Z _ _ _ | exact q0Z _ _ _ | exact qHZ (by omega) (by omega) | exact qIZ (by omega) (by omega) | exact qAZ _ | exact qBZ _ _ _ | exact qCZ _ _ _) ?_ | refine qQZ (gV_F rfl) ?_ | refine qQZ (gV_T rfl) ?_))
    refine h.snoc s2 (by rw [List.length_take, chunks_len]; omega) fun v' K' h' => ?_
    (repeat (first | refine qQZ (qDZ _) ?_ | refine qQZ (qEZ _) ?_ | refine qQZ (qFZ _ _) ?_ | refine qQZ (qGZ _ _) ?_ | refine qQZ (by (try with_reducible first | refine gV_F ?_ | refine gV_T ?_); first | exact add_one (a := k) (by omega) | exact q1Z _ _ | exact q2Z _ _ _ | exact q3Z _ | exact q4Z _ | exact q5Z _ _ _ | exact q6Z _ _ _ | exact q7Z _ _ _ | exact q8Z _ _ _ | exact q9Z _ _ _ | exact q0Z _ _ _ | exact qHZ (by omega) (by omega) | exact qIZ (by omega) (by omega) | exact qAZ _ | exact qBZ _ _ _ | exact qCZ _ _ _) ?_ | refine qQZ (gV_F rfl) ?_ | refine qQZ (gV_T rfl) ?_))
    refine ih (k + 1) v' K' (by omega) (by omega) ?_
    rw [List.take_succ_eq_append_getElem (by rw [chunks_len]; exact hkn), chunks_at hkn]
    rw [show (k + 1) * w - k * w = w by omega] at h'
    exact h'
theorem dist2_spec {hv : Value} {heard : List (List (List Int))} (hw0 : 0 < w) (hw : w ≤ 10) (hq7 : E.q.length ≤ 7) (hq3 : ∀ d, d < E.q.length → (E.q.getD d []).length ≤ 3) (hhl : heard.length = E.q.length) (hhr : ∀ i, i < E.q.length → (heard.getD i []).length = E.q.length) (h : VSt E R H tg rd views ts S (fillG (rowsA w E.q heard) i 0) Fl) (hb : Box R b (qTZ E.jp)) (hc : Box R c (.int .i64 w)) {a : Nat} (ha : Box R a hv) (hh : Sl (qXZ (qXZ (eInt .u64))) R hv heard) (hi : i < E.q.length) :
    qVZ Tryd.prog 127 [.int .i64 i, qTZ b, qTZ a, qTZ c] H (After R H tg 6 fun R' H' tg' => VSt E R' H' tg' rd views ts S (fillG (rowsA w E.q heard) (i + 1) 0) Fl) := by
  have hoi : i < (rowsA w E.q heard).length := by rw [rowsA_len]; exact hi
  have eoi : ((rowsA w E.q heard).getD i []).length = E.q.length := by rw [rowsA_at hi, rowsIn_len]
  have hil : i < heard.length := by omega
  have eh : heard.getD i [] = heard[i] := p6Z hil
  have ehr := hhr i hi
  rw [eh] at ehr
  apply call127
  unfold m127
  have hl := h.lab.le
  have ph := h.ph.mono hl
  (repeat (first | refine qQZ (qDZ _) ?_ | refine qQZ (qEZ _) ?_ | refine qQZ (qFZ _ _) ?_ | refine qQZ (qGZ _ _) ?_ | refine qQZ (by (try with_reducible first | refine gV_F ?_ | refine gV_T ?_); first | exact (hb.mono hl).ld rfl | exact ph.q | exact h.q.len | exact q1Z _ _ | exact q2Z _ _ _ | exact q3Z _ | exact q4Z _ | exact q5Z _ _ _ | exact q6Z _ _ _ | exact q7Z _ _ _ | exact q8Z _ _ _ | exact q9Z _ _ _ | exact q0Z _ _ _ | exact qHZ (by omega) (by omega) | exact qIZ (by omega) (by omega) | exact qAZ _ | exact qBZ _ _ _ | exact qCZ _ _ _) ?_ | refine qQZ (gV_F rfl) ?_ | refine qQZ (gV_T rfl) ?_))
  suffices key : ∀ (d k : Nat) (R1 K : Heap) (tg1 : Nat → Nat), E.q.length - k = d → k ≤ E.q.length → Le R R1 → VSt E R1 K tg1 rd views ts S (fillG (rowsA w E.q heard) i k) Fl → (∀ j, 6 ≤ j → Stays tg tg1 H K j) →
      L127_1 (.int .i64 i) (qTZ b) (qTZ a) (qTZ c) E.qv (.int .i64 E.q.length) (.int .i64 k) K _ _ from key _ 0 R H tg rfl (by omega) (Le.refl _) h fun j _ => Stays.refl _ _ _
  intro d
  induction d with
  | zero =>
    intro k R1 K tg1 hd hk lR h1 st
    apply L127_1_round
    unfold m127_2
    (repeat (first | refine qQZ (qDZ _) ?_ | refine qQZ (qEZ _) ?_ | refine qQZ (qFZ _ _) ?_ | refine qQZ (qGZ _ _) ?_ | refine qQZ (by (try with_reducible first | refine gV_F ?_ | refine gV_T ?_); first | exact q1Z _ _ | exact q2Z _ _ _ | exact q3Z _ | exact q4Z _ | exact q5Z _ _ _ | exact q6Z _ _ _ | exact q7Z _ _ _ | exact q8Z _ _ _ | exact q9Z _ _ _ | exact q0Z _ _ _ | exact qHZ (by omega) (by omega) | exact qIZ (by omega) (by omega) | exact qAZ _ | exact qBZ _ _ _ | exact qCZ _ _ _) ?_ | refine qQZ (gV_F rfl) ?_ | refine qQZ (gV_T rfl) ?_))
    refine qJZ (fun hlt => absurd hlt (by omega)) (fun _ => ?_)
    have e : k = ((rowsA w E.q heard).getD i []).length := by omega
    subst e
    rw [fillG_next hoi] at h1
    exact ⟨R1, tg1, lR, h1, st⟩
  | succ d ih =>
    intro k R1 K tg1 hd hk lR h1 st
    have hl1 := h1.lab.le
    have hb1 := (hb.mono lR).mono hl1
    have ha1 := (ha.mono lR).mono hl1
    have hc1 := (hc.mono lR).mono hl1
    apply L127_1_round
    unfold m127_2
    (repeat (first | refine qQZ (qDZ _) ?_ | refine qQZ (qEZ _) ?_ | refine qQZ (qFZ _ _) ?_ | refine qQZ (qGZ _ _) ?_ | refine qQZ (by (try with_reducible first | refine gV_F ?_ | refine gV_T ?_); first | exact q1Z _ _ | exact q2Z _ _ _ | exact q3Z _ | exact q4Z _ | exact q5Z _ _ _ | exact q6Z _ _ _ | exact q7Z _ _ _ | exact q8Z _ _ _ | exact q9Z _ _ _ | exact q0Z _ _ _ | exact qHZ (by omega) (by omega) | exact qIZ (by omega) (by omega) | exact qAZ _ | exact qBZ _ _ _ | exact qCZ _ _ _) ?_ | refine qQZ (gV_F rfl) ?_ | refine qQZ (gV_T rfl) ?_))
    refine qJZ (fun hlt => ?_) (fun hlt => absurd (by omega) hlt)
    unfold m127_4 m127_5
    have hkl : k < E.q.length := by omega
    obtain ⟨pq, fv, q1, q2, q3⟩ := h1.q.row hkl (ti := ty27) rfl
    obtain ⟨pi, uv, i1, i2, i3⟩ := (hh.mono lR).row hil (ti := ty27) rfl
    obtain ⟨pm, mv, m1, m2, m3⟩ := i3.row (i := k) (by omega) (ti := ty52) rfl
    have hf3 := hq3 k hkl
    have ef : E.q.getD k [] = E.q[k] := p6Z hkl
    rw [ef] at hf3
    have b2 : E.q[k].length * w ≤ 3 * 10 := Nat.mul_le_mul hf3 hw
    (repeat (first | refine qQZ (qDZ _) ?_ | refine qQZ (qEZ _) ?_ | refine qQZ (qFZ _ _) ?_ | refine qQZ (qGZ _ _) ?_ | refine qQZ (by (try with_reducible first | refine gV_F ?_ | refine gV_T ?_); first | exact q1 | exact qKZ hl1 q2 | exact ha1.ld rfl | exact i1 | exact qKZ hl1 i2 | exact m1 | exact qKZ hl1 m2 | exact q3.len | exact hc1.ld rfl | exact mul_nat (a := E.q[k].length) (b := w) (by omega) | exact q1Z _ _ | exact q2Z _ _ _ | exact q3Z _ | exact q4Z _ | exact q5Z _ _ _ | exact q6Z _ _ _ | exact q7Z _ _ _ | exact q8Z _ _ _ | exact q9Z _ _ _ | exact q0Z _ _ _ | exact qHZ (by omega) (by omega) | exact qIZ (by omega) (by omega) | exact qAZ _ | exact qBZ _ _ _ | exact qCZ _ _ _) ?_ | refine qQZ (gV_F rfl) ?_ | refine qQZ (gV_T rfl) ?_))
    refine p9Z (resize_spec (m3.mono hl1) (n := E.q[k].length * w) (by omega)) fun lv K1 hlv => ?_
    obtain ⟨N, hN, hsl⟩ := GI.made (G := K) (H := K1) (v := lv) (xs := rsz heard[i][k] (E.q[k].length * w)) (by unfold GI; rw [rsz_len]; exact hlv)
    have h2 := h1.news hN
    have hl2 := h2.lab.le
    have lv2 := hsl.mono (hN.right hl1)
    unfold m127_7
    refine qQZ q3.len ?_
    refine dist2_in hl2 lv2 hw0 hw (n := E.q[k].length) (by omega) (by rw [rsz_len]) ((hc.mono lR).mono (qNZ _ _)) (fun ov K2 ho => ?_) _ 0 _ K1 rfl (by omega) (by simpa using RwE.nil K1 _)
    unfold m127_6
    obtain ⟨N2, hN2, hsl2⟩ := ho.made
    have h3 := h2.news hN2
    have hl3 := h3.lab.le
    have ov3 := hsl2 (hun (hun R1 N) N2) (qNZ _ _) (hN2.right hl2)
    have lR3 : Le R (hun (hun R1 N) N2) := (lR.trans (qNZ _ _)).trans (qNZ _ _)
    have ph3 := h3.ph.mono hl3
    have hb3 := (hb.mono lR3).mono hl3
    have hgi : (fillG (rowsA w E.q heard) i k).getD i [] = ((rowsA w E.q heard).getD i []).take k := fillG_get hoi
    obtain ⟨pg, ug, g1, g2, g3⟩ := h3.gR.push (te := ty27) (j := i) rfl hl3 (h3.kn (by decide)) (h3.fr (by decide)) (by decide) (by rw [fillG_len]; exact hoi) rfl rfl (by decide) (x := chunks w E.q[k].length (rsz heard[i][k] (E.q[k].length * w))) (w := ov) ⟨ov, rfl, ov3⟩ ov3.cell.1 ov3.cell.2 (by rw [hgi, List.length_take]; omega)
    (repeat (first | refine qQZ (qDZ _) ?_ | refine qQZ (qEZ _) ?_ | refine qQZ (qFZ _ _) ?_ | refine qQZ (qGZ _ _) ?_ | refine qQZ (by (try with_reducible first | refine gV_F ?_ | refine gV_T ?_); first | exact hb3.ld rfl | exact ph3.rv | exact g1 | exact g2 _ rfl | exact q1Z _ _ | exact q2Z _ _ _ | exact q3Z _ | exact q4Z _ | exact q5Z _ _ _ | exact q6Z _ _ _ | exact q7Z _ _ _ | exact q8Z _ _ _ | exact q9Z _ _ _ | exact q0Z _ _ _ | exact qHZ (by omega) (by omega) | exact qIZ (by omega) (by omega) | exact qAZ _ | exact qBZ _ _ _ | exact qCZ _ _ _) ?_ | refine qQZ (gV_F rfl) ?_ | refine qQZ (gV_T rfl) ?_))
    refine g3 _ fun u' K4 K5 F' c1 c2 c3 c4 => ?_
    have hl4 := c1.leR hl3 (h3.fr (by decide))
    have ph4 := h3.ph.mono hl4
    have hb4 := (hb.mono lR3).mono hl4
    refine ⟨ph4.rv, hb4.ld rfl, qQZ g1 (p8Z c2 ?_)⟩
    unfold m127_3
    (repeat (first | refine qQZ (qDZ _) ?_ | refine qQZ (qEZ _) ?_ | refine qQZ (qFZ _ _) ?_ | refine qQZ (qGZ _ _) ?_ | refine qQZ (by (try with_reducible first | refine gV_F ?_ | refine gV_T ?_); first | exact add_one (a := k) (by omega) | exact q1Z _ _ | exact q2Z _ _ _ | exact q3Z _ | exact q4Z _ | exact q5Z _ _ _ | exact q6Z _ _ _ | exact q7Z _ _ _ | exact q8Z _ _ _ | exact q9Z _ _ _ | exact q0Z _ _ _ | exact qHZ (by omega) (by omega) | exact qIZ (by omega) (by omega) | exact qAZ _ | exact qBZ _ _ _ | exact qCZ _ _ _) ?_ | refine qQZ (gV_F rfl) ?_ | refine qQZ (gV_T rfl) ?_))
    obtain ⟨tg2, h5, o5⟩ := h3.mvR c3 c4
    rw [hgi] at h5
    have hkk : k < ((rowsA w E.q heard).getD i []).length := by omega
    have ex : chunks w E.q[k].length (rsz heard[i][k] (E.q[k].length * w)) = ((rowsA w E.q heard).getD i [])[k]'hkk := by
      have h6 := rowsIn_at (w := w) (hd := heard.getD i []) hkl
      rw [ef, eh, p6Z (show k < heard[i].length by omega)] at h6
      rw [← h6]
      congr 1
      rw [rowsA_at hi, eh]
    rw [ex, fillG_push hoi hkk] at h5
    exact ih (k + 1) _ K5 tg2 (by omega) (by omega) lR3 h5 fun j hj => (((st j hj).trans (Stays.news hN)).trans (Stays.news hN2)).trans (o5 j (by omega) (by omega))
end
end

end Go.Proofs.YtchhpagkdaaglaaDoor.SL
