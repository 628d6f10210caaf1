/- Part 25 of the proof of LawSe: VdH VdI VdJ VdK VdL VdM Fair VdO VdP VdQ VdR VdS VdX VdY, one behind the other. -/
import Derived.Test.YtchhpagkdaaglaaDoorSed
import Derived.Test.YtchhpagkdaaglaaDoorSeb
set_option linter.unusedVariables false
set_option linter.unusedSimpArgs false
namespace Go.Proofs.YtchhpagkdaaglaaDoor.SL

section
open Go

theorem outA_msgs {p : Int} {n w : Nat} {S : List (List (List (List Int)))} (hp : 0 < p) (hw : w ≤ 10) (hS : SOk p n w S) : MsgsM p n (outA p n S) := by
  refine ⟨by rw [outA_len], fun m hm => ?_⟩
  simp only [outA, List.mem_map, List.mem_range] at hm
  obtain ⟨i, hi, rfl⟩ := hm
  refine ⟨by simp, fun r hr => ?_⟩
  simp only [List.mem_map, List.mem_range] at hr
  obtain ⟨j, hj, rfl⟩ := hr
  refine ⟨fun x hx => ?_, ?_⟩
  · simp only [rowsTo, List.mem_flatten, List.mem_map] at hx
    obtain ⟨l, ⟨m, hm, rfl⟩, hx⟩ := hx
    exact rowL_rng hp x hx
  · unfold rowsTo
    rw [flat_len (w := w) fun m hm => by rw [rowL_len (hS.sq i hi m hm).1]; exact (hS.sq i hi m hm).2]
    have : (S.getD i []).length * w ≤ 3 * 10 := Nat.mul_le_mul (hS.few i hi) hw
    omega
theorem grid_of_make {α : Type} {e : El α} {R H H' : Heap} {te : TI} {ei eo : TypeId} {v : Value} {n : Nat} (hz : te.zero = .slice none 0 0) (hg : Grown H H' 1 eo v n (zerosL te n)) : Grid e R (fun b => blkOf v = some b) ei eo H' v (List.replicate n []) := by
  refine Grid.new (H := H) ?_
  rw [zerosL_one (by rw [hz]; rfl), hz] at hg
  exact hg
theorem blk_new {H H' : Heap} {eo : TypeId} {v : Value} {n : Nat} {cs : List Value} (hg : Grown H H' 1 eo v n cs) : ∀ b, blkOf v = some b → H b = none ∧ H' b ≠ none := fun b hb => ⟨hg.2.2 b hb, by
  obtain ⟨_, _, e⟩ := hg.2.1.at_ hb
  rw [e]; simp⟩
section
variable {E : Ctx} {R H : Heap} {tg : Nat → Nat} {rd : Int} {views : List (List Ev)} {ts : List (List Int × Nat)} {S Rws : List (List (List (List Int)))} {Fl : List (List (List Int))} {i b c w n : Nat}
theorem VSt.box {k : Nat → Heap → Prop} {v : Value} {t : TypeId} (h : VSt E R H tg rd views ts S Rws Fl) (hk : ∀ i H' N, New H H' N → VSt E (hun R N) H' tg rd views ts S Rws Fl → Box (hun R N) i v → k i H') : oNew [v] 1 t H k := fun i hi => by
  have hN := New.one (c := .cells [v] 1 t true) hi
  exact hk i _ _ hN (h.news hN) ⟨t, by simp [hun, none_le h.lab.le hi, hone]⟩
theorem VSt.boxS {k : Nat → Heap → Prop} {z v : Value} {ti : TI} {t : TypeId} (h : VSt E R H tg rd views ts S Rws Fl) (hz : z.cells.toList = [z]) (hv : v.oneCell' = true) (ht : ti.agg = false) (hs : ti.size = 1) (hk : ∀ i H' N, New H H' N → VSt E (hun R N) H' tg rd views ts S Rws Fl → Box (hun R N) i v → k i H') :
    oNew (Value.cells z).toList (Value.cells z).toList.length t H fun i H1 => oHeap (p2Z ti (qTZ i) v H1) fun H2 => k i H2 := box_new hz hv ht hs fun i hi => by
  have hN := New.one (c := .cells [v] 1 t true) hi
  exact hk i _ _ hN (h.news hN) ⟨t, by simp [hun, none_le h.lab.le hi, hone]⟩
theorem distribute_spec {B : Nat} (hV : ScnV E.s) (hn : E.s.N = n) (hn7 : n ≤ 7) (hqn : E.q.length = n) (hq3 : ∀ d, d < E.q.length → (E.q.getD d []).length ≤ 3) (hT : E.s.T + 1 = w) (hw0 : 0 < w) (hw : w ≤ 10) (hS : SOk E.s.P n w S) (h : VSt E R H tg rd views ts S (List.replicate n []) Fl) (h6 : ∀ b, ¬ Pt tg 6 b)
    (hvl : (views.length : Int) = E.s.N) (hB : Few views B) (hB2 : B ≤ 900000) (hr0 : 0 ≤ rd) (hr1 : rd ≤ 1000000) :
    qVZ Tryd.prog 104 [qTZ E.jp] H (After R H tg 7 fun R' H' tg' => VSt E R' H' tg' (rd + 1) (sendV rd (applyM E.s rd (outA E.s.P n S) E.s.devs.length) views.length views views.length) ts S (rowsA w E.q (recv (applyM E.s rd (outA E.s.P n S) E.s.devs.length) views.length)) Fl ∧ ∀ b, ¬ Pt tg' 6 b) := by
  obtain ⟨hp, hn4, hn13, _⟩ := hV.par
  apply call104
  unfold m104
  show oNew [qTZ E.jp] 1 150 H _
  refine h.box fun b H1 N1 hN1 h1 hb => ?_
  have hl1 := h1.lab.le
  have ph1 := h1.ph.mono hl1
  (repeat (first | refine qQZ (qDZ _) ?_ | refine qQZ (qEZ _) ?_ | refine qQZ (qFZ _ _) ?_ | refine qQZ (qGZ _ _) ?_ | refine qQZ (by (try with_reducible first | refine gV_F ?_ | refine gV_T ?_); first | exact (hb.mono hl1).ld rfl | exact ph1.t | exact q1Z _ _ | exact q2Z _ _ _ | exact q3Z _ | exact q4Z _ | exact q5Z _ _ _ | exact q6Z _ _ _ | exact q7Z _ _ _ | exact q8Z _ _ _ | exact q9Z _ _ _ | exact q0Z _ _ _ | exact qHZ (by omega) (by omega) | exact qIZ (by omega) (by omega) | exact qAZ _ | exact qBZ _ _ _ | exact qCZ _ _ _) ?_ | refine qQZ (gV_F rfl) ?_ | refine qQZ (gV_T rfl) ?_))
  rw [hT]
  refine h1.boxS rfl rfl rfl rfl fun c H2 N2 hN2 h2 hc => ?_
  have hl2 := h2.lab.le
  have ph2 := (h2.ph.mono hl2).n
  rw [hn] at ph2
  replace hb := hb.mono (qNZ (hun R N1) N2)
  (repeat (first | refine qQZ (qDZ _) ?_ | refine qQZ (qEZ _) ?_ | refine qQZ (qFZ _ _) ?_ | refine qQZ (qGZ _ _) ?_ | refine qQZ (by (try with_reducible first | refine gV_F ?_ | refine gV_T ?_); first | exact (hb.mono hl2).ld rfl | exact ph2 | exact q1Z _ _ | exact q2Z _ _ _ | exact q3Z _ | exact q4Z _ | exact q5Z _ _ _ | exact q6Z _ _ _ | exact q7Z _ _ _ | exact q8Z _ _ _ | exact q9Z _ _ _ | exact q0Z _ _ _ | exact qHZ (by omega) (by omega) | exact qIZ (by omega) (by omega) | exact qAZ _ | exact qBZ _ _ _ | exact qCZ _ _ _) ?_ | refine qQZ (gV_F rfl) ?_ | refine qQZ (gV_T rfl) ?_))
  refine oMake_own (te := ty27) rfl (by show 24 * n ≤ _; omega) (by omega) fun sv H3 hg => ?_
  have h26 : ∀ b, ¬ Pt tg 6 b := h6
  obtain ⟨tg3, h3, e3, o3⟩ := h2.part (i := 6) (by decide) hg.1 h26 (blk_new hg)
  have g3 : Grid (qXZ (eInt .u64)) (hun (hun R N1) N2) (Pt tg3 6) 52 27 H3 sv (fillG (outA E.s.P n S) 0 0) := by
    rw [e3, fillG_zero, outA_len]
    exact grid_of_make rfl hg
  refine h3.boxS rfl g3.one rfl rfl fun a H4 N4 hN4 h4 ha => ?_
  have hl4 := h4.lab.le
  have lR4 : Le R (hun (hun (hun R N1) N2) N4) := ((qNZ R N1).trans (qNZ _ N2)).trans (qNZ _ N4)
  replace hb := hb.mono (qNZ (hun (hun R N1) N2) N4)
  replace hc := hc.mono (qNZ (hun (hun R N1) N2) N4)
  have g4 := g3.stay (qNZ _ N4) (Stays.news (tg := tg3) hN4)
  have st4 : ∀ j, 7 ≤ j → Stays tg tg3 H H4 j := fun j hj => (((Stays.news hN1).trans (Stays.news hN2)).trans (o3 j (by omega) (by omega))).trans (Stays.news hN4)
  generalize hun (hun (hun R N1) N2) N4 = R4 at h4 ha hb hc hl4 lR4 g4
  (repeat (first | refine qQZ (qDZ _) ?_ | refine qQZ (qEZ _) ?_ | refine qQZ (qFZ _ _) ?_ | refine qQZ (qGZ _ _) ?_ | refine qQZ (by (try with_reducible first | refine gV_F ?_ | refine gV_T ?_); first | exact (hb.mono hl4).ld rfl | exact q1Z _ _ | exact q2Z _ _ _ | exact q3Z _ | exact q4Z _ | exact q5Z _ _ _ | exact q6Z _ _ _ | exact q7Z _ _ _ | exact q8Z _ _ _ | exact q9Z _ _ _ | exact q0Z _ _ _ | exact qHZ (by omega) (by omega) | exact qIZ (by omega) (by omega) | exact qAZ _ | exact qBZ _ _ _ | exact qCZ _ _ _) ?_ | refine qQZ (gV_F rfl) ?_ | refine qQZ (gV_T rfl) ?_))
  have phn := (h4.ph.mono hl4).n
  rw [hn] at phn
  refine p9Z (each_spec (n := n) (fid := 125) (caps := [qTZ b, qTZ a]) (I := fun i K => ∃ R5 tg5, Le R4 R5 ∧ VSt E R5 K tg5 rd views ts S (List.replicate n []) Fl ∧ Grid (qXZ (eInt .u64)) R5 (Pt tg5 6) 52 27 K sv (fillG (outA E.s.P n S) i 0) ∧ ∀ j, 7 ≤ j → Stays tg tg5 H K j) rfl phn (by omega) ⟨R4, tg3, Le.refl _, h4, g4, st4⟩ fun i K hi hI => ?_) fun v K hK => ?_
  · obtain ⟨R5, tg5, l5, s5, g5, st5⟩ := hI
    refine (dist1_spec hp hn hn7 hw hS s5 (hb.mono l5) (ha.mono l5) g5 hi).ret fun v K' hv => ?_
    obtain ⟨R6, tg6, l6, ⟨s6, g6⟩, st6⟩ := hv
    exact ⟨R6, tg6, l5.trans l6, s6, g6, fun j hj => (st5 j hj).trans (st6 j hj)⟩
  obtain ⟨R5, tg5, l5, s5, g5, st5⟩ := hK
  have eend : fillG (outA E.s.P n S) n 0 = outA E.s.P n S := by
    have := fillG_end (A := outA E.s.P n S)
    rw [outA_len] at this
    exact this
  rw [eend] at g5
  obtain ⟨G, tg6, s6, lG, kG, n6, o6⟩ := s5.freeze (i := 6) (by decide)
  have out6 : Sl (qXZ (qXZ (eInt .u64))) G sv (outA E.s.P n S) := g5.sl rfl lG kG
  have hlG := s6.lab.le
  have lR6 := (lR4.trans l5).trans lG
  have l46 := l5.trans lG
  have ph6 := s6.ph.mono hlG
  (repeat (first | refine qQZ (qDZ _) ?_ | refine qQZ (qEZ _) ?_ | refine qQZ (qFZ _ _) ?_ | refine qQZ (qGZ _ _) ?_ | refine qQZ (by (try with_reducible first | refine gV_F ?_ | refine gV_T ?_); first | exact ((hb.mono l46).mono hlG).ld rfl | exact ph6.jn | exact ((ha.mono l46).mono hlG).ld rfl | exact q1Z _ _ | exact q2Z _ _ _ | exact q3Z _ | exact q4Z _ | exact q5Z _ _ _ | exact q6Z _ _ _ | exact q7Z _ _ _ | exact q8Z _ _ _ | exact q9Z _ _ _ | exact q0Z _ _ _ | exact qHZ (by omega) (by omega) | exact qIZ (by omega) (by omega) | exact qAZ _ | exact qBZ _ _ _ | exact qCZ _ _ _) ?_ | refine qQZ (gV_F rfl) ?_ | refine qQZ (gV_T rfl) ?_))
  have hmsgs : MsgsM E.s.P E.s.N (outA E.s.P n S) := by rw [hn]; exact outA_msgs (by have := hp.pos; omega) hw hS
  refine p9Z (send_part s6.net hV out6 hmsgs hvl hB hB2 hr0 hr1) fun hv K7 hv7 => ?_
  obtain ⟨R7, F7, m7, n7, sl7⟩ := hv7
  obtain ⟨tg7, s7, o7⟩ := s6.mvNet m7 n7
  refine s7.boxS rfl sl7.cell.2 rfl rfl fun x K8 N8 hN8 s8 hx => ?_
  have hl8 := s8.lab.le
  have l48 : Le R4 (hun R7 N8) := (l46.trans m7.r).trans (qNZ _ _)
  have lR8 : Le R (hun R7 N8) := lR4.trans l48
  replace sl7 := sl7.mono (qNZ R7 N8)
  have st8 : ∀ j, 7 ≤ j → Stays tg tg7 H K8 j := fun j hj => (((st5 j hj).trans (o6 j (by omega) (by omega))).trans (o7 j (by omega) (by omega))).trans (Stays.news hN8)
  have n8 : ∀ b, ¬ Pt tg7 6 b := (o7 6 (by decide) (by decide)).none n6
  generalize hun R7 N8 = R8 at s8 hx hl8 l48 lR8 sl7
  (repeat (first | refine qQZ (qDZ _) ?_ | refine qQZ (qEZ _) ?_ | refine qQZ (qFZ _ _) ?_ | refine qQZ (qGZ _ _) ?_ | refine qQZ (by (try with_reducible first | refine gV_F ?_ | refine gV_T ?_); first | exact ((hb.mono l48).mono hl8).ld rfl | exact q1Z _ _ | exact q2Z _ _ _ | exact q3Z _ | exact q4Z _ | exact q5Z _ _ _ | exact q6Z _ _ _ | exact q7Z _ _ _ | exact q8Z _ _ _ | exact q9Z _ _ _ | exact q0Z _ _ _ | exact qHZ (by omega) (by omega) | exact qIZ (by omega) (by omega) | exact qAZ _ | exact qBZ _ _ _ | exact qCZ _ _ _) ?_ | refine qQZ (gV_F rfl) ?_ | refine qQZ (gV_T rfl) ?_))
  have phn8 := (s8.ph.mono hl8).n
  rw [hn] at phn8
  have hvn : views.length = n := by omega
  refine p9Z (each_spec (n := n) (fid := 127) (caps := [qTZ b, qTZ x, qTZ c]) (I := fun i K => ∃ R9 tg9, Le R8 R9 ∧ VSt E R9 K tg9 (rd + 1) (sendV rd (applyM E.s rd (outA E.s.P n S) E.s.devs.length) views.length views views.length) ts S (fillG (rowsA w E.q (recv (applyM E.s rd (outA E.s.P n S) E.s.devs.length) views.length)) i 0) Fl ∧ ∀ j, 6 ≤ j → Stays tg7 tg9 K8 K j) rfl phn8 (by omega) ⟨R8, tg7, Le.refl _, by rw [fillG_zero, rowsA_len, hqn]; exact s8, fun j _ => Stays.refl _ _ _⟩ fun i K hi hI => ?_) fun v K hK => ?_
  · obtain ⟨R9, tg9, l9, s9, st9⟩ := hI
    refine (dist2_spec hw0 hw (by omega) hq3 (by rw [recv_len]; omega) (fun i hi => ?_) s9 (hb.mono (l48.trans l9)) (hc.mono (l48.trans l9)) (hx.mono l9) (sl7.mono l9) (by omega)).ret fun v K' hv => ?_
    · rw [List.getD_eq_getElem?_getD, recv_get _ (by omega)]
      simp only [Option.getD_some, inTo_len]
      omega
    · obtain ⟨R10, tg10, l10, s10, st10⟩ := hv
      exact ⟨R10, tg10, l9.trans l10, s10, fun j hj => (st9 j hj).trans (st10 j hj)⟩
  obtain ⟨R9, tg9, l9, s9, st9⟩ := hK
  have eend2 : ∀ heard, fillG (rowsA w E.q heard) n 0 = rowsA w E.q heard := fun heard => by
    have := fillG_end (A := rowsA w E.q heard)
    rw [rowsA_len, hqn] at this
    exact this
  rw [eend2] at s9
  exact ⟨R9, tg9, lR8.trans l9, ⟨s9, (st9 6 (by decide)).none n8⟩, fun j hj => (st8 j hj).trans (st9 j (by omega))⟩
end
end

section
open Go

def valsOf (p : Int) (Ri : List (List (List Int))) (x : Int) : List Int := (Ri.map fun own => own.map fun row => evalP p x row).flatten
theorem valsOf_rng {p x : Int} {Ri : List (List (List Int))} (hp : 0 < p) : rng p (valsOf p Ri x) := fun y hy => by
  simp only [valsOf, List.mem_flatten, List.mem_map] at hy
  obtain ⟨l, ⟨own, _, rfl⟩, hy⟩ := hy
  simp only [List.mem_map] at hy
  obtain ⟨row, _, rfl⟩ := hy
  exact evalP_rng hp row
structure RwOk (p : Int) (q : List (List (List Int))) (Ri : List (List (List Int))) : Prop where
  len : Ri.length = q.length
  few : ∀ d, d < q.length → (Ri.getD d []).length = (q.getD d []).length
  rg : ∀ d, d < q.length → ∀ r ∈ Ri.getD d [], rng p r
def offs (q : List (List (List Int))) (d : Nat) : Nat := ((q.take d).map List.length).sum
theorem offs_succ {q : List (List (List Int))} {d : Nat} (h : d < q.length) : offs q (d + 1) = offs q d + (q.getD d []).length := by
  unfold offs
  rw [map_succ h, List.sum_append, p6Z h]
  simp
theorem offs_le {q : List (List (List Int))} (h3 : ∀ d, d < q.length → (q.getD d []).length ≤ 3) : ∀ d, d ≤ q.length → offs q d ≤ 3 * d
  | 0, _ => by simp [offs]
  | d + 1, hd => by
    have h1 := offs_le h3 d (by omega)
    have h2 := h3 d (by omega)
    rw [offs_succ (by omega)]
    omega
section
variable {p x : Int} {q : List (List (List Int))} {Ri : List (List (List Int))}
theorem RwOk.offs (h : RwOk p q Ri) : ∀ d, d ≤ q.length → (((Ri.take d).map fun own => own.map fun row => evalP p x row).flatten).length = SL.offs q d
  | 0, _ => by simp [SL.offs]
  | d + 1, hd => by
    have h1 := RwOk.offs h d (by omega)
    have hl := h.len
    have h2 := h.few d (by omega)
    rw [p6Z (show d < Ri.length by omega)] at h2
    rw [flat_succ (show d < Ri.length by omega), List.length_append, h1, List.length_map, offs_succ (by omega), h2]
theorem RwOk.vals (h : RwOk p q Ri) : (valsOf p Ri x).length = SL.offs q q.length := by
  have := h.offs (x := x) q.length (Nat.le_refl _)
  have hl := h.len
  rw [List.take_of_length_le (by omega)] at this
  exact this
end
section
variable {E : Ctx} {R H : Heap} {tg : Nat → Nat} {rd : Int} {views : List (List Ev)} {ts : List (List Int × Nat)} {S Rws : List (List (List (List Int)))} {Fl : List (List (List Int))} {i b c w n x : Nat}
theorem values_in {G : Heap} {u : Value} {own : List (List Int)} {pre : List Int} (hp : Supp E.s.P) (hu : Sl (qXZ (eInt .u64)) G u own) (hr : ∀ r ∈ own, rng E.s.P r) (hf : own.length ≤ 3) (hpre : pre.length ≤ 1000) (hx : x ≤ 100) (hph : PhAt G E) {x19 x20 x21 : Value} {kn kx1 : Value → Value → Value → Value → Value → Value → Heap → Prop} {kx0 : Value → Heap → Prop} {Q : Ending → Heap → Prop}
    (hk : ∀ lv K, GI G K lv (pre ++ own.map fun row => evalP E.s.P x row) → kn (qTZ E.jp) (.int .i64 x) lv x19 x20 x21 K) :
    ∀ (d c : Nat) (lv : Value) (K : Heap), own.length - c = d → c ≤ own.length → GI G K lv (pre ++ (own.take c).map fun row => evalP E.s.P x row) → L132_8 (qTZ E.jp) (.int .i64 x) lv x19 x20 x21 u (.int .i64 own.length) (.int .i64 c) K kn kx1 kx0 Q := by
  have hpp := hp.pos
  intro d
  induction d with
  | zero =>
    intro c lv K hd hc h
    apply L132_8_round
    unfold m132_9
    (repeat (first | refine qQZ (qDZ _) ?_ | refine qQZ (qEZ _) ?_ | refine qQZ (qFZ _ _) ?_ | refine qQZ (qGZ _ _) ?_ | refine qQZ (by (try with_reducible first | refine gV_F ?_ | refine gV_T ?_); first | exact q1Z _ _ | exact q2Z _ _ _ | exact q3Z _ | exact q4Z _ | exact q5Z _ _ _ | exact q6Z _ _ _ | exact q7Z _ _ _ | exact q8Z _ _ _ | exact q9Z _ _ _ | exact q0Z _ _ _ | exact qHZ (by omega) (by omega) | exact qIZ (by omega) (by omega) | exact qAZ _ | exact qBZ _ _ _ | exact qCZ _ _ _) ?_ | refine qQZ (gV_F rfl) ?_ | refine qQZ (gV_T rfl) ?_))
    refine qJZ (fun hlt => absurd hlt (by omega)) (fun _ => hk lv K ?_)
    rw [List.take_of_length_le (by omega)] at h
    exact h
  | succ d ih =>
    intro c lv K hd hc h
    apply L132_8_round
    unfold m132_9
    (repeat (first | refine qQZ (qDZ _) ?_ | refine qQZ (qEZ _) ?_ | refine qQZ (qFZ _ _) ?_ | refine qQZ (qGZ _ _) ?_ | refine qQZ (by (try with_reducible first | refine gV_F ?_ | refine gV_T ?_); first | exact q1Z _ _ | exact q2Z _ _ _ | exact q3Z _ | exact q4Z _ | exact q5Z _ _ _ | exact q6Z _ _ _ | exact q7Z _ _ _ | exact q8Z _ _ _ | exact q9Z _ _ _ | exact q0Z _ _ _ | exact qHZ (by omega) (by omega) | exact qIZ (by omega) (by omega) | exact qAZ _ | exact qBZ _ _ _ | exact qCZ _ _ _) ?_ | refine qQZ (gV_F rfl) ?_ | refine qQZ (gV_T rfl) ?_))
    refine qJZ (fun hlt => ?_) (fun hlt => absurd (by omega) hlt)
    have hcl : c < own.length := by omega
    obtain ⟨pm, mv, a1, a2, a3⟩ := hu.row hcl (ti := ty52) rfl
    have hK := h.le
    have ph := hph.mono hK
    (repeat (first | refine qQZ (qDZ _) ?_ | refine qQZ (qEZ _) ?_ | refine qQZ (qFZ _ _) ?_ | refine qQZ (qGZ _ _) ?_ | refine qQZ (by (try with_reducible first | refine gV_F ?_ | refine gV_T ?_); first | exact a1 | exact qKZ hK a2 | exact ph.p | exact conv_u64 (x := (x : Int)) (by omega) (by omega) | exact q1Z _ _ | exact q2Z _ _ _ | exact q3Z _ | exact q4Z _ | exact q5Z _ _ _ | exact q6Z _ _ _ | exact q7Z _ _ _ | exact q8Z _ _ _ | exact q9Z _ _ _ | exact q0Z _ _ _ | exact qHZ (by omega) (by omega) | exact qIZ (by omega) (by omega) | exact qAZ _ | exact qBZ _ _ _ | exact qCZ _ _ _) ?_ | refine qQZ (gV_F rfl) ?_ | refine qQZ (gV_T rfl) ?_))
    refine oRC_val (eval_spec (a3.mono hK) hp (hr _ (List.getElem_mem hcl)) (by omega) (by omega)) ?_
    refine h.snoc (by simp; omega) fun lv' K' h' => ?_
    (repeat (first | refine qQZ (qDZ _) ?_ | refine qQZ (qEZ _) ?_ | refine qQZ (qFZ _ _) ?_ | refine qQZ (qGZ _ _) ?_ | refine qQZ (by (try with_reducible first | refine gV_F ?_ | refine gV_T ?_); first | exact add_one (a := c) (by omega) | exact q1Z _ _ | exact q2Z _ _ _ | exact q3Z _ | exact q4Z _ | exact q5Z _ _ _ | exact q6Z _ _ _ | exact q7Z _ _ _ | exact q8Z _ _ _ | exact q9Z _ _ _ | exact q0Z _ _ _ | exact qHZ (by omega) (by omega) | exact qIZ (by omega) (by omega) | exact qAZ _ | exact qBZ _ _ _ | exact qCZ _ _ _) ?_ | refine qQZ (gV_F rfl) ?_ | refine qQZ (gV_T rfl) ?_))
    refine ih (c + 1) lv' K' (by omega) (by omega) ?_
    rw [map_succ hcl, ← List.append_assoc]
    exact h'
theorem values_spec {Ri : List (List (List Int))} (hp : Supp E.s.P) (hq7 : E.q.length ≤ 7) (hq3 : ∀ d, d < E.q.length → (E.q.getD d []).length ≤ 3) (h : VSt E R H tg rd views ts S Rws Fl) (hi : i < Rws.length) (hRi : Rws.getD i [] = Ri) (hok : RwOk E.s.P E.q Ri) (hx : x ≤ 100) :
    qVZ Tryd.prog 132 [qTZ E.jp, .int .i64 i, .int .i64 x] H (Ret fun v H' => GI H H' v (valsOf E.s.P Ri x)) := by
  have hl := h.lab.le
  have ph := h.ph.mono hl
  obtain ⟨pr, u, g1, g2, g3⟩ := h.gR.get rfl hl hi
  rw [hRi] at g3
  have hRl := hok.len
  apply call132
  unfold m132 m132_2
  (repeat (first | refine qQZ (qDZ _) ?_ | refine qQZ (qEZ _) ?_ | refine qQZ (qFZ _ _) ?_ | refine qQZ (qGZ _ _) ?_ | refine qQZ (by (try with_reducible first | refine gV_F ?_ | refine gV_T ?_); first | exact ph.rv | exact g1 | exact g2 _ rfl | exact g3.len | exact q1Z _ _ | exact q2Z _ _ _ | exact q3Z _ | exact q4Z _ | exact q5Z _ _ _ | exact q6Z _ _ _ | exact q7Z _ _ _ | exact q8Z _ _ _ | exact q9Z _ _ _ | exact q0Z _ _ _ | exact qHZ (by omega) (by omega) | exact qIZ (by omega) (by omega) | exact qAZ _ | exact qBZ _ _ _ | exact qCZ _ _ _) ?_ | refine qQZ (gV_F rfl) ?_ | refine qQZ (gV_T rfl) ?_))
  suffices key : ∀ (d k : Nat) (lv : Value) (K : Heap), Ri.length - k = d → k ≤ Ri.length → GI H K lv (((Ri.take k).map fun own => own.map fun row => evalP E.s.P x row).flatten) → L132_3 (qTZ E.jp) (.int .i64 x) lv u (.int .i64 Ri.length) (.int .i64 k) K _ _ from key _ 0 _ H rfl (by omega) (by simpa using GI.nil H)
  intro d
  induction d with
  | zero =>
    intro k lv K hd hk h
    apply L132_3_round
    unfold m132_4
    (repeat (first | refine qQZ (qDZ _) ?_ | refine qQZ (qEZ _) ?_ | refine qQZ (qFZ _ _) ?_ | refine qQZ (qGZ _ _) ?_ | refine qQZ (by (try with_reducible first | refine gV_F ?_ | refine gV_T ?_); first | exact q1Z _ _ | exact q2Z _ _ _ | exact q3Z _ | exact q4Z _ | exact q5Z _ _ _ | exact q6Z _ _ _ | exact q7Z _ _ _ | exact q8Z _ _ _ | exact q9Z _ _ _ | exact q0Z _ _ _ | exact qHZ (by omega) (by omega) | exact qIZ (by omega) (by omega) | exact qAZ _ | exact qBZ _ _ _ | exact qCZ _ _ _) ?_ | refine qQZ (gV_F rfl) ?_ | refine qQZ (gV_T rfl) ?_))
    refine qJZ (fun hlt => absurd hlt (by omega)) (fun _ => ?_)
    unfold m132_1
    rw [List.take_of_length_le (by omega)] at h
    exact h
  | succ d ih =>
    intro k lv K hd hk h
    apply L132_3_round
    unfold m132_4
    (repeat (first | refine qQZ (qDZ _) ?_ | refine qQZ (qEZ _) ?_ | refine qQZ (qFZ _ _) ?_ | refine qQZ (qGZ _ _) ?_ | refine qQZ (by (try with_reducible first | refine gV_F ?_ | refine gV_T ?_); first | exact q1Z _ _ | exact q2Z _ _ _ | exact q3Z _ | exact q4Z _ | exact q5Z _ _ _ | exact q6Z _ _ _ | exact q7Z _ _ _ | exact q8Z _ _ _ | exact q9Z _ _ _ | exact q0Z _ _ _ | exact qHZ (by omega) (by omega) | exact qIZ (by omega) (by omega) | exact qAZ _ | exact qBZ _ _ _ | exact qCZ _ _ _) ?_ | refine qQZ (gV_F rfl) ?_ | refine qQZ (gV_T rfl) ?_))
    refine qJZ (fun hlt => ?_) (fun hlt => absurd (by omega) hlt)
    unfold m132_6 m132_7
    have hkl : k < Ri.length := by omega
    have eR : Ri.getD k [] = Ri[k] := p6Z hkl
    obtain ⟨po, ou, a1, a2, a3⟩ := g3.row hkl (ti := ty27) rfl
    have hfew := hok.few k (by omega)
    have hrg := hok.rg k (by omega)
    have h3 := hq3 k (by omega)
    rw [eR] at hfew hrg
    (repeat (first | refine qQZ (qDZ _) ?_ | refine qQZ (qEZ _) ?_ | refine qQZ (qFZ _ _) ?_ | refine qQZ (qGZ _ _) ?_ | refine qQZ (by (try with_reducible first | refine gV_F ?_ | refine gV_T ?_); first | exact a1 | exact qKZ h.le a2 | exact a3.len | exact q1Z _ _ | exact q2Z _ _ _ | exact q3Z _ | exact q4Z _ | exact q5Z _ _ _ | exact q6Z _ _ _ | exact q7Z _ _ _ | exact q8Z _ _ _ | exact q9Z _ _ _ | exact q0Z _ _ _ | exact qHZ (by omega) (by omega) | exact qIZ (by omega) (by omega) | exact qAZ _ | exact qBZ _ _ _ | exact qCZ _ _ _) ?_ | refine qQZ (gV_F rfl) ?_ | refine qQZ (gV_T rfl) ?_))
    have hoff := hok.offs (x := (x : Int)) k (by omega)
    have hole := offs_le hq3 k (by omega)
    refine values_in hp a3 hrg (by omega) (by rw [hoff]; omega) hx ph (fun lv' K' h' => ?_) _ 0 lv K rfl (by omega) (by simpa using h)
    unfold m132_5
    (repeat (first | refine qQZ (qDZ _) ?_ | refine qQZ (qEZ _) ?_ | refine qQZ (qFZ _ _) ?_ | refine qQZ (qGZ _ _) ?_ | refine qQZ (by (try with_reducible first | refine gV_F ?_ | refine gV_T ?_); first | exact add_one (a := k) (by omega) | exact q1Z _ _ | exact q2Z _ _ _ | exact q3Z _ | exact q4Z _ | exact q5Z _ _ _ | exact q6Z _ _ _ | exact q7Z _ _ _ | exact q8Z _ _ _ | exact q9Z _ _ _ | exact q0Z _ _ _ | exact qHZ (by omega) (by omega) | exact qIZ (by omega) (by omega) | exact qAZ _ | exact qBZ _ _ _ | exact qCZ _ _ _) ?_ | refine qQZ (gV_F rfl) ?_ | refine qQZ (gV_T rfl) ?_))
    refine ih (k + 1) lv' K' (by omega) (by omega) ?_
    rw [flat_succ hkl]
    exact h'
def outB (p : Int) (n : Nat) (Rws : List (List (List (List Int)))) : List (List (List Int)) := (List.range n).map fun (i : Nat) => (List.range n).map fun (j : Nat) => valsOf p (Rws.getD i []) ((j : Int) + 1)
theorem outB_len {p : Int} : (outB p n Rws).length = n := by simp [outB]
theorem outB_at {p : Int} (hi : i < n) : (outB p n Rws).getD i [] = (List.range n).map fun (j : Nat) => valsOf p (Rws.getD i []) ((j : Int) + 1) := by
  rw [p6Z (by rw [outB_len]; exact hi)]
  simp [outB]
theorem outB_msgs {p : Int} {q : List (List (List Int))} (hp : 0 < p) (hq7 : q.length ≤ 7) (hq3 : ∀ d, d < q.length → (q.getD d []).length ≤ 3) (hok : ∀ i, i < n → RwOk p q (Rws.getD i [])) : MsgsM p n (outB p n Rws) := by
  refine ⟨by rw [outB_len], fun m hm => ?_⟩
  simp only [outB, List.mem_map, List.mem_range] at hm
  obtain ⟨i, hi, rfl⟩ := hm
  refine ⟨by simp, fun r hr => ?_⟩
  simp only [List.mem_map, List.mem_range] at hr
  obtain ⟨j, hj, rfl⟩ := hr
  refine ⟨valsOf_rng hp, ?_⟩
  rw [(hok i hi).vals]
  have := offs_le hq3 q.length (Nat.le_refl _)
  omega
theorem cmp1_spec {rv : Value} (hp : Supp E.s.P) (hn : E.s.N = n) (hn7 : n ≤ 7) (hqn : E.q.length = n) (hq3 : ∀ d, d < E.q.length → (E.q.getD d []).length ≤ 3) (hRl : Rws.length = n) (hok : ∀ i, i < n → RwOk E.s.P E.q (Rws.getD i [])) (h : VSt E R H tg rd views ts S Rws Fl) (hb : Box R b (qTZ E.jp)) (hc : Box R c rv) (hg : Grid (qXZ (eInt .u64)) R (Pt tg 6) 52 27 H rv (fillG (outB E.s.P n Rws) i 0)) (hi : i < n) :
    qVZ Tryd.prog 131 [.int .i64 i, qTZ b, qTZ c] H (After R H tg 7 fun R' H' tg' => VSt E R' H' tg' rd views ts S Rws Fl ∧ Grid (qXZ (eInt .u64)) R' (Pt tg' 6) 52 27 H' rv (fillG (outB E.s.P n Rws) (i + 1) 0)) := by
  have hoi : i < (outB E.s.P n Rws).length := by rw [outB_len]; exact hi
  have eoi : ((outB E.s.P n Rws).getD i []).length = n := by rw [outB_at hi]; simp
  apply call131
  unfold m131
  suffices key : ∀ (d k : Nat) (R1 K : Heap) (tg1 : Nat → Nat), n - k = d → k ≤ n → Le R R1 → VSt E R1 K tg1 rd views ts S Rws Fl → Grid (qXZ (eInt .u64)) R1 (Pt tg1 6) 52 27 K rv (fillG (outB E.s.P n Rws) i k) → (∀ j, 7 ≤ j → Stays tg tg1 H K j) →
      L131_1 (.int .i64 i) (qTZ b) (qTZ c) (.int .i64 ((k + 1 : Nat) : Int)) K _ _ from key _ 0 R H tg rfl (by omega) (Le.refl _) h hg fun j _ => Stays.refl _ _ _
  intro d
  induction d with
  | zero =>
    intro k R1 K tg1 hd hk lR h1 hg1 st
    have hl1 := h1.lab.le
    have ph1 := (h1.ph.mono hl1).n
    rw [hn] at ph1
    apply L131_1_round
    unfold m131_2
    (repeat (first | refine qQZ (qDZ _) ?_ | refine qQZ (qEZ _) ?_ | refine qQZ (qFZ _ _) ?_ | refine qQZ (qGZ _ _) ?_ | refine qQZ (by (try with_reducible first | refine gV_F ?_ | refine gV_T ?_); first | exact ((hb.mono lR).mono hl1).ld rfl | exact ph1 | exact q1Z _ _ | exact q2Z _ _ _ | exact q3Z _ | exact q4Z _ | exact q5Z _ _ _ | exact q6Z _ _ _ | exact q7Z _ _ _ | exact q8Z _ _ _ | exact q9Z _ _ _ | exact q0Z _ _ _ | exact qHZ (by omega) (by omega) | exact qIZ (by omega) (by omega) | exact qAZ _ | exact qBZ _ _ _ | exact qCZ _ _ _) ?_ | refine qQZ (gV_F rfl) ?_ | refine qQZ (gV_T rfl) ?_))
    refine qJZ (fun hlt => absurd hlt (by omega)) (fun _ => ?_)
    have e : k = ((outB E.s.P n Rws).getD i []).length := by omega
    subst e
    rw [fillG_next hoi] at hg1
    exact ⟨R1, tg1, lR, ⟨h1, hg1⟩, st⟩
  | succ d ih =>
    intro k R1 K tg1 hd hk lR h1 hg1 st
    have hl1 := h1.lab.le
    have ph1 := h1.ph.mono hl1
    have phn := ph1.n
    rw [hn] at phn
    have hb1 := (hb.mono lR).mono hl1
    have hc1 := (hc.mono lR).mono hl1
    apply L131_1_round
    unfold m131_2
    (repeat (first | refine qQZ (qDZ _) ?_ | refine qQZ (qEZ _) ?_ | refine qQZ (qFZ _ _) ?_ | refine qQZ (qGZ _ _) ?_ | refine qQZ (by (try with_reducible first | refine gV_F ?_ | refine gV_T ?_); first | exact hb1.ld rfl | exact phn | exact q1Z _ _ | exact q2Z _ _ _ | exact q3Z _ | exact q4Z _ | exact q5Z _ _ _ | exact q6Z _ _ _ | exact q7Z _ _ _ | exact q8Z _ _ _ | exact q9Z _ _ _ | exact q0Z _ _ _ | exact qHZ (by omega) (by omega) | exact qIZ (by omega) (by omega) | exact qAZ _ | exact qBZ _ _ _ | exact qCZ _ _ _) ?_ | refine qQZ (gV_F rfl) ?_ | refine qQZ (gV_T rfl) ?_))
    refine qJZ (fun hlt => ?_) (fun hlt => absurd (by omega) hlt)
    have hkl : k < ((outB E.s.P n Rws).getD i []).length := by omega
    have hgi : (fillG (outB E.s.P n Rws) i k).getD i [] = ((outB E.s.P n Rws).getD i []).take k := fillG_get hoi
    obtain ⟨pg0, ug0, e1, e2, _⟩ := hg1.get rfl hl1 (j := i) (by rw [fillG_len]; exact hoi)
    (repeat (first | refine qQZ (qDZ _) ?_ | refine qQZ (qEZ _) ?_ | refine qQZ (qFZ _ _) ?_ | refine qQZ (qGZ _ _) ?_ | refine qQZ (by (try with_reducible first | refine gV_F ?_ | refine gV_T ?_); first | exact hc1.ld rfl | exact e1 | exact e2 _ rfl | exact hb1.ld rfl | exact q1Z _ _ | exact q2Z _ _ _ | exact q3Z _ | exact q4Z _ | exact q5Z _ _ _ | exact q6Z _ _ _ | exact q7Z _ _ _ | exact q8Z _ _ _ | exact q9Z _ _ _ | exact q0Z _ _ _ | exact qHZ (by omega) (by omega) | exact qIZ (by omega) (by omega) | exact qAZ _ | exact qBZ _ _ _ | exact qCZ _ _ _) ?_ | refine qQZ (gV_F rfl) ?_ | refine qQZ (gV_T rfl) ?_))
    refine p9Z (values_spec hp (by omega) hq3 h1 (by omega) rfl (hok i hi) (x := k + 1) (by omega)) fun lv K1 hlv => ?_
    obtain ⟨N, hN, hsl⟩ := hlv.made
    have h2 := h1.news hN
    have hl2 := h2.lab.le
    have hc2 := ((hc.mono lR).mono (qNZ R1 N)).mono hl2
    have hg2 := hg1.stay (qNZ R1 N) (Stays.news (tg := tg1) hN)
    have hlvR := hsl.mono (hN.right hl1)
    obtain ⟨pg, ug, g1, g2, g3⟩ := hg2.push (te := ty52) (j := i) rfl hl2 (h2.kn (by decide)) (h2.fr (by decide)) (by decide) (by rw [fillG_len]; exact hoi) rfl rfl (by decide) (x := valsOf E.s.P (Rws.getD i []) ((k + 1 : Nat) : Int)) (w := lv) ⟨lv, rfl, hlvR⟩ hlvR.cell.1 hlvR.cell.2 (by rw [hgi, List.length_take]; omega)
    rw [e1] at g1
    cases g1
    have e3 := g2 ty27 rfl
    have e4 := qKZ hN.1 (e2 ty27 rfl)
    rw [e3] at e4
    cases e4
    refine ⟨e3, hc2.ld rfl, hc2.ld rfl, ?_⟩
    refine g3 _ fun u' K4 K5 F' c1 c2 c3 c4 => ?_
    have hl4 : Le (hun R1 N) K4 := c1.leR hl2 (h2.fr (by decide))
    have hc4 := ((hc.mono lR).mono (qNZ R1 N)).mono hl4
    refine ⟨hc4.ld rfl, qQZ e1 (p8Z c2 ?_)⟩
    (repeat (first | refine qQZ (qDZ _) ?_ | refine qQZ (qEZ _) ?_ | refine qQZ (qFZ _ _) ?_ | refine qQZ (qGZ _ _) ?_ | refine qQZ (by (try with_reducible first | refine gV_F ?_ | refine gV_T ?_); first | exact add_one (a := k + 1) (by omega) | exact q1Z _ _ | exact q2Z _ _ _ | exact q3Z _ | exact q4Z _ | exact q5Z _ _ _ | exact q6Z _ _ _ | exact q7Z _ _ _ | exact q8Z _ _ _ | exact q9Z _ _ _ | exact q0Z _ _ _ | exact qHZ (by omega) (by omega) | exact qIZ (by omega) (by omega) | exact qAZ _ | exact qBZ _ _ _ | exact qCZ _ _ _) ?_ | refine qQZ (gV_F rfl) ?_ | refine qQZ (gV_T rfl) ?_))
    obtain ⟨tg2, h3, e3', o3⟩ := h2.mvOther (by decide) c3
    rw [hgi] at c4
    have ex : valsOf E.s.P (Rws.getD i []) ((k + 1 : Nat) : Int) = ((outB E.s.P n Rws).getD i [])[k]'hkl := by
      have : ((List.range n).map fun (j : Nat) => valsOf E.s.P (Rws.getD i []) ((j : Int) + 1))[k]'(by simp; omega) = valsOf E.s.P (Rws.getD i []) ((k + 1 : Nat) : Int) := by rw [List.getElem_map, List.getElem_range]; rfl
      rw [← this]
      congr 1
      exact (outB_at hi).symm
    rw [ex, fillG_push hoi hkl, ← e3'] at c4
    exact ih (k + 1) (hun R1 N) K5 tg2 (by omega) (by omega) (lR.trans (qNZ _ _)) h3 c4 fun j hj => ((st j hj).trans (Stays.news hN)).trans (o3 j (by omega) (by omega))
theorem compare_spec {B : Nat} (hV : ScnV E.s) (hn : E.s.N = n) (hn7 : n ≤ 7) (hqn : E.q.length = n) (hq3 : ∀ d, d < E.q.length → (E.q.getD d []).length ≤ 3) (hRl : Rws.length = n) (hok : ∀ i, i < n → RwOk E.s.P E.q (Rws.getD i [])) (h : VSt E R H tg rd views ts S Rws Fl) (h6 : ∀ b, ¬ Pt tg 6 b)
    (hvl : (views.length : Int) = E.s.N) (hB : Few views B) (hB2 : B ≤ 900000) (hr0 : 0 ≤ rd) (hr1 : rd ≤ 1000000) :
    qVZ Tryd.prog 106 [qTZ E.jp] H (Ret fun v H' => ∃ R' tg', Le R R' ∧ VSt E R' H' tg' (rd + 1) (sendV rd (applyM E.s rd (outB E.s.P n Rws) E.s.devs.length) views.length views views.length) ts S Rws Fl ∧ Sl (qXZ (qXZ (eInt .u64))) R' v (recv (applyM E.s rd (outB E.s.P n Rws) E.s.devs.length) views.length) ∧ (∀ b, ¬ Pt tg' 6 b) ∧ ∀ j, 7 ≤ j → Stays tg tg' H H' j) := by
  obtain ⟨hp, hn4, hn13, _⟩ := hV.par
  apply call106
  unfold m106
  show oNew [qTZ E.jp] 1 150 H _
  refine h.box fun b H1 N1 hN1 h1 hb => ?_
  have hl1 := h1.lab.le
  have ph1 := (h1.ph.mono hl1).n
  rw [hn] at ph1
  (repeat (first | refine qQZ (qDZ _) ?_ | refine qQZ (qEZ _) ?_ | refine qQZ (qFZ _ _) ?_ | refine qQZ (qGZ _ _) ?_ | refine qQZ (by (try with_reducible first | refine gV_F ?_ | refine gV_T ?_); first | exact (hb.mono hl1).ld rfl | exact ph1 | exact q1Z _ _ | exact q2Z _ _ _ | exact q3Z _ | exact q4Z _ | exact q5Z _ _ _ | exact q6Z _ _ _ | exact q7Z _ _ _ | exact q8Z _ _ _ | exact q9Z _ _ _ | exact q0Z _ _ _ | exact qHZ (by omega) (by omega) | exact qIZ (by omega) (by omega) | exact qAZ _ | exact qBZ _ _ _ | exact qCZ _ _ _) ?_ | refine qQZ (gV_F rfl) ?_ | refine qQZ (gV_T rfl) ?_))
  refine oMake_own (te := ty27) rfl (by show 24 * n ≤ _; omega) (by omega) fun sv H3 hg => ?_
  obtain ⟨tg3, h3, e3, o3⟩ := h1.part (i := 6) (by decide) hg.1 h6 (blk_new hg)
  have g3 : Grid (qXZ (eInt .u64)) (hun R N1) (Pt tg3 6) 52 27 H3 sv (fillG (outB E.s.P n Rws) 0 0) := by
    rw [e3, fillG_zero, outB_len]
    exact grid_of_make rfl hg
  refine h3.boxS rfl g3.one rfl rfl fun a H4 N4 hN4 h4 ha => ?_
  have hl4 := h4.lab.le
  have lR4 : Le R (hun (hun R N1) N4) := (qNZ R N1).trans (qNZ _ N4)
  replace hb := hb.mono (qNZ (hun R N1) N4)
  have g4 := g3.stay (qNZ _ N4) (Stays.news (tg := tg3) hN4)
  have st4 : ∀ j, 7 ≤ j → Stays tg tg3 H H4 j := fun j hj => ((Stays.news hN1).trans (o3 j (by omega) (by omega))).trans (Stays.news hN4)
  generalize hun (hun R N1) N4 = R4 at h4 ha hb hl4 lR4 g4
  (repeat (first | refine qQZ (qDZ _) ?_ | refine qQZ (qEZ _) ?_ | refine qQZ (qFZ _ _) ?_ | refine qQZ (qGZ _ _) ?_ | refine qQZ (by (try with_reducible first | refine gV_F ?_ | refine gV_T ?_); first | exact (hb.mono hl4).ld rfl | exact q1Z _ _ | exact q2Z _ _ _ | exact q3Z _ | exact q4Z _ | exact q5Z _ _ _ | exact q6Z _ _ _ | exact q7Z _ _ _ | exact q8Z _ _ _ | exact q9Z _ _ _ | exact q0Z _ _ _ | exact qHZ (by omega) (by omega) | exact qIZ (by omega) (by omega) | exact qAZ _ | exact qBZ _ _ _ | exact qCZ _ _ _) ?_ | refine qQZ (gV_F rfl) ?_ | refine qQZ (gV_T rfl) ?_))
  have phn := (h4.ph.mono hl4).n
  rw [hn] at phn
  refine p9Z (each_spec (n := n) (fid := 131) (caps := [qTZ b, qTZ a]) (I := fun i K => ∃ R5 tg5, Le R4 R5 ∧ VSt E R5 K tg5 rd views ts S Rws Fl ∧ Grid (qXZ (eInt .u64)) R5 (Pt tg5 6) 52 27 K sv (fillG (outB E.s.P n Rws) i 0) ∧ ∀ j, 7 ≤ j → Stays tg tg5 H K j) rfl phn (by omega) ⟨R4, tg3, Le.refl _, h4, g4, st4⟩ fun i K hi hI => ?_) fun v K hK => ?_
  · obtain ⟨R5, tg5, l5, s5, g5, st5⟩ := hI
    refine (cmp1_spec hp hn hn7 hqn hq3 hRl hok s5 (hb.mono l5) (ha.mono l5) g5 hi).ret fun v K' hv => ?_
    obtain ⟨R6, tg6, l6, ⟨s6, g6⟩, st6⟩ := hv
    exact ⟨R6, tg6, l5.trans l6, s6, g6, fun j hj => (st5 j hj).trans (st6 j hj)⟩
  obtain ⟨R5, tg5, l5, s5, g5, st5⟩ := hK
  have eend : fillG (outB E.s.P n Rws) n 0 = outB E.s.P n Rws := by
    have := fillG_end (A := outB E.s.P n Rws)
    rw [outB_len] at this
    exact this
  rw [eend] at g5
  obtain ⟨G, tg6, s6, lG, kG, n6, o6⟩ := s5.freeze (i := 6) (by decide)
  have out6 : Sl (qXZ (qXZ (eInt .u64))) G sv (outB E.s.P n Rws) := g5.sl rfl lG kG
  have hlG := s6.lab.le
  have lR6 := (lR4.trans l5).trans lG
  have l46 := l5.trans lG
  have ph6 := s6.ph.mono hlG
  (repeat (first | refine qQZ (qDZ _) ?_ | refine qQZ (qEZ _) ?_ | refine qQZ (qFZ _ _) ?_ | refine qQZ (qGZ _ _) ?_ | refine qQZ (by (try with_reducible first | refine gV_F ?_ | refine gV_T ?_); first | exact ((hb.mono l46).mono hlG).ld rfl | exact ph6.jn | exact ((ha.mono l46).mono hlG).ld rfl | exact q1Z _ _ | exact q2Z _ _ _ | exact q3Z _ | exact q4Z _ | exact q5Z _ _ _ | exact q6Z _ _ _ | exact q7Z _ _ _ | exact q8Z _ _ _ | exact q9Z _ _ _ | exact q0Z _ _ _ | exact qHZ (by omega) (by omega) | exact qIZ (by omega) (by omega) | exact qAZ _ | exact qBZ _ _ _ | exact qCZ _ _ _) ?_ | refine qQZ (gV_F rfl) ?_ | refine qQZ (gV_T rfl) ?_))
  have hmsgs : MsgsM E.s.P E.s.N (outB E.s.P n Rws) := by rw [hn]; exact outB_msgs (by have := hp.pos; omega) (by omega) hq3 hok
  refine p9Z (send_part s6.net hV out6 hmsgs hvl hB hB2 hr0 hr1) fun hv K7 hv7 => ?_
  obtain ⟨R7, F7, m7, n7, sl7⟩ := hv7
  obtain ⟨tg7, s7, o7⟩ := s6.mvNet m7 n7
  exact ⟨R7, tg7, lR6.trans m7.r, s7, sl7, (o7 6 (by decide) (by decide)).none n6, fun j hj => ((st5 j hj).trans (o6 j (by omega) (by omega))).trans (o7 j (by omega) (by omega))⟩
end
end

section
open Go

def differ (own rec : List Int) (a : Nat) : Nat → Bool
  | 0 => false
  | k + 1 => differ own rec a k || decide (rec.getD (a + k) 0 ≠ own.getD (a + k) 0)
def mark (own rec : List Int) (a k pos : Nat) (l : List Int) : List Int := if differ own rec a k then l.set pos 1 else l
theorem mark_len (own rec : List Int) (a k pos : Nat) (l : List Int) : (mark own rec a k pos l).length = l.length := by
  unfold mark
  split <;> simp
theorem mark_succ {own rec : List Int} {a k pos : Nat} {l : List Int} : (rec.getD (a + k) 0 ≠ own.getD (a + k) 0 → (mark own rec a k pos l).set pos 1 = mark own rec a (k + 1) pos l) ∧ (rec.getD (a + k) 0 = own.getD (a + k) 0 → mark own rec a k pos l = mark own rec a (k + 1) pos l) := by
  unfold mark
  refine ⟨fun h => ?_, fun h => ?_⟩
  · have e : differ own rec a (k + 1) = true := by simp only [differ]; rw [decide_eq_true h, Bool.or_true]
    rw [if_pos e]
    split
    · rw [List.set_set]
    · rfl
  · have e : differ own rec a (k + 1) = differ own rec a k := by simp only [differ]; rw [decide_eq_false (fun c => c h), Bool.or_false]
    rw [e]
def flagJ (own rec : List Int) (q : List (List (List Int))) (n j : Nat) (l : List Int) : Nat → List Int
  | 0 => l
  | d + 1 => mark own rec (offs q d) (q.getD d []).length (d * n + j) (flagJ own rec q n j l d)
theorem flagJ_len (own rec : List Int) (q : List (List (List Int))) (n j : Nat) (l : List Int) : ∀ d, (flagJ own rec q n j l d).length = l.length
  | 0 => rfl
  | d + 1 => by rw [flagJ, mark_len, flagJ_len own rec q n j l d]
def flagsAcc (p : Int) (n : Nat) (q : List (List (List Int))) (i : Nat) (Ri : List (List (List Int))) (hd : List (List Int)) : Nat → List Int
  | 0 => List.replicate (n * n) 0
  | j + 1 => if j = i then flagsAcc p n q i Ri hd j else flagJ (valsOf p Ri ((j : Int) + 1)) (rsz (hd.getD j []) (valsOf p Ri ((j : Int) + 1)).length) q n j (flagsAcc p n q i Ri hd j) q.length
theorem flagsAcc_len (p : Int) (n : Nat) (q : List (List (List Int))) (i : Nat) (Ri : List (List (List Int))) (hd : List (List Int)) : ∀ j, (flagsAcc p n q i Ri hd j).length = n * n
  | 0 => by simp [flagsAcc]
  | j + 1 => by
    rw [flagsAcc]
    split
    · exact flagsAcc_len p n q i Ri hd j
    · rw [flagJ_len, flagsAcc_len p n q i Ri hd j]
def bit (p : Int) (l : List Int) : Prop := ∀ x ∈ l, x = 0 ∨ x = 1
theorem mark_bit {own rec : List Int} {a k pos : Nat} {l : List Int} {p : Int} (h : bit p l) : bit p (mark own rec a k pos l) := by
  unfold mark
  split
  · intro x hx
    rcases List.mem_or_eq_of_mem_set hx with h1 | h1
    · exact h x h1
    · exact .inr h1
  · exact h
theorem flagsAcc_bit {p : Int} {n : Nat} {q : List (List (List Int))} {i : Nat} {Ri : List (List (List Int))} {hd : List (List Int)} : ∀ j, bit p (flagsAcc p n q i Ri hd j)
  | 0 => fun x hx => .inl (List.mem_replicate.1 hx).2
  | j + 1 => by
    rw [flagsAcc]
    split
    · exact flagsAcc_bit j
    · suffices h : ∀ d, bit p (flagJ (valsOf p Ri ((j : Int) + 1)) (rsz (hd.getD j []) (valsOf p Ri ((j : Int) + 1)).length) q n j (flagsAcc p n q i Ri hd j) d) from h _
      intro d
      induction d with
      | zero => exact flagsAcc_bit j
      | succ d ih => exact mark_bit ih
theorem bit.rng {p : Int} {l : List Int} (h : bit p l) (hp : 1 < p) : rng p l := fun x hx => by
  rcases h x hx with rfl | rfl <;> omega
section
variable {E : Ctx} {R H : Heap} {tg : Nat → Nat} {rd : Int} {views : List (List Ev)} {ts : List (List Int × Nat)} {S Rws : List (List (List (List Int)))} {Fl : List (List (List Int))} {i b c w n x : Nat}
theorem flags_in {G : Heap} {ov rv fv : Value} {own rec base : List Int} {a m d j : Nat} (ho : Sl (eInt .u64) G ov own) (hr : Sl (eInt .u64) G rv rec) (hor : rec.length = own.length) (ham : a + m ≤ own.length) (hm : own.length ≤ 1000) (hph : PhAt G E) (hn : E.s.N = n) (hn7 : n ≤ 7) (hd7 : d ≤ 7) (hj7 : j ≤ 7) (hpos : d * n + j < base.length) {x1 x2 x30 x31 x52 x53 x54 : Value}
    {kn kx3 : Value → Value → Value → Value → Value → Value → Value → Value → Value → Value → Value → Value → Value → Heap → Prop} {kx2 kx1 : Value → Value → Value → Value → Value → Value → Heap → Prop} {kx0 : Value → Heap → Prop} {Q : Ending → Heap → Prop}
    (hk : ∀ K, GI G K fv (mark own rec a m (d * n + j) base) → kn (qTZ E.jp) x1 x2 fv (.int .i64 j) ov rv (.int .i64 ((a + m : Nat) : Int)) x30 x31 x52 x53 x54 K) :
    ∀ (r k : Nat) (K : Heap), m - k = r → k ≤ m → GI G K fv (mark own rec a k (d * n + j) base) → L129_13 (qTZ E.jp) x1 x2 fv (.int .i64 j) ov rv (.int .i64 ((a + k : Nat) : Int)) (.int .i64 d) x30 x31 x52 x53 x54 (.int .i64 m) (.int .i64 k) K kn kx3 kx2 kx1 kx0 Q := by
  intro r
  induction r with
  | zero =>
    intro k K hd hk2 h
    apply L129_13_round
    unfold m129_14
    (repeat (first | refine qQZ (qDZ _) ?_ | refine qQZ (qEZ _) ?_ | refine qQZ (qFZ _ _) ?_ | refine qQZ (qGZ _ _) ?_ | refine qQZ (by (try with_reducible first | refine gV_F ?_ | refine gV_T ?_); first | exact q1Z _ _ | exact q2Z _ _ _ | exact q3Z _ | exact q4Z _ | exact q5Z _ _ _ | exact q6Z _ _ _ | exact q7Z _ _ _ | exact q8Z _ _ _ | exact q9Z _ _ _ | exact q0Z _ _ _ | exact qHZ (by omega) (by omega) | exact qIZ (by omega) (by omega) | exact qAZ _ | exact qBZ _ _ _ | exact qCZ _ _ _) ?_ | refine qQZ (gV_F rfl) ?_ | refine qQZ (gV_T rfl) ?_))
    refine qJZ (fun hlt => absurd hlt (by omega)) (fun _ => ?_)
    have e : k = m := by omega
    subst e
    exact hk K h
  | succ r ih =>
    intro k K hd hk2 h
    apply L129_13_round
    unfold m129_14
    (repeat (first | refine qQZ (qDZ _) ?_ | refine qQZ (qEZ _) ?_ | refine qQZ (qFZ _ _) ?_ | refine qQZ (qGZ _ _) ?_ | refine qQZ (by (try with_reducible first | refine gV_F ?_ | refine gV_T ?_); first | exact q1Z _ _ | exact q2Z _ _ _ | exact q3Z _ | exact q4Z _ | exact q5Z _ _ _ | exact q6Z _ _ _ | exact q7Z _ _ _ | exact q8Z _ _ _ | exact q9Z _ _ _ | exact q0Z _ _ _ | exact qHZ (by omega) (by omega) | exact qIZ (by omega) (by omega) | exact qAZ _ | exact qBZ _ _ _ | exact qCZ _ _ _) ?_ | refine qQZ (gV_F rfl) ?_ | refine qQZ (gV_T rfl) ?_))
    refine qJZ (fun hlt => ?_) (fun hlt => absurd (by omega) hlt)
    have hK := h.le
    obtain ⟨pr, r1, r2⟩ := hr.word (i := a + k) (by omega) (ti := ty22) rfl
    obtain ⟨po, o1, o2⟩ := ho.word (i := a + k) (by omega) (ti := ty22) rfl
    have er : rec.getD (a + k) 0 = rec[a + k]'(by omega) := p6Z _
    have eo : own.getD (a + k) 0 = own[a + k]'(by omega) := p6Z _
    have phn := (hph.mono hK).n
    rw [hn] at phn
    have hdn : d * n ≤ 7 * 7 := Nat.mul_le_mul hd7 hn7
    (repeat (first | refine qQZ (qDZ _) ?_ | refine qQZ (qEZ _) ?_ | refine qQZ (qFZ _ _) ?_ | refine qQZ (qGZ _ _) ?_ | refine qQZ (by (try with_reducible first | refine gV_F ?_ | refine gV_T ?_); first | exact r1 | exact qKZ hK r2 | exact o1 | exact qKZ hK o2 | exact q1Z _ _ | exact q2Z _ _ _ | exact q3Z _ | exact q4Z _ | exact q5Z _ _ _ | exact q6Z _ _ _ | exact q7Z _ _ _ | exact q8Z _ _ _ | exact q9Z _ _ _ | exact q0Z _ _ _ | exact qHZ (by omega) (by omega) | exact qIZ (by omega) (by omega) | exact qAZ _ | exact qBZ _ _ _ | exact qCZ _ _ _) ?_ | refine qQZ (gV_F rfl) ?_ | refine qQZ (gV_T rfl) ?_))
    refine qJZ (fun hne => ?_) (fun he => ?_)
    · obtain ⟨pf, f1, f2, f3⟩ := h.ix (i := d * n + j) (by rw [mark_len]; exact hpos)
      obtain ⟨K', s1, s2⟩ := f3 1
      (repeat (first | refine qQZ (qDZ _) ?_ | refine qQZ (qEZ _) ?_ | refine qQZ (qFZ _ _) ?_ | refine qQZ (qGZ _ _) ?_ | refine qQZ (by (try with_reducible first | refine gV_F ?_ | refine gV_T ?_); first | exact phn | exact mul_nat (a := d) (b := n) (by omega) | exact add_nat (a := d * n) (b := j) (by omega) | exact f1 | exact q1Z _ _ | exact q2Z _ _ _ | exact q3Z _ | exact q4Z _ | exact q5Z _ _ _ | exact q6Z _ _ _ | exact q7Z _ _ _ | exact q8Z _ _ _ | exact q9Z _ _ _ | exact q0Z _ _ _ | exact qHZ (by omega) (by omega) | exact qIZ (by omega) (by omega) | exact qAZ _ | exact qBZ _ _ _ | exact qCZ _ _ _) ?_ | refine qQZ (gV_F rfl) ?_ | refine qQZ (gV_T rfl) ?_))
      refine p8Z s1 ?_
      (repeat (first | refine qQZ (qDZ _) ?_ | refine qQZ (qEZ _) ?_ | refine qQZ (qFZ _ _) ?_ | refine qQZ (qGZ _ _) ?_ | refine qQZ (by (try with_reducible first | refine gV_F ?_ | refine gV_T ?_); first | exact add_one (a := a + k) (by omega) | exact add_one (a := k) (by omega) | exact q1Z _ _ | exact q2Z _ _ _ | exact q3Z _ | exact q4Z _ | exact q5Z _ _ _ | exact q6Z _ _ _ | exact q7Z _ _ _ | exact q8Z _ _ _ | exact q9Z _ _ _ | exact q0Z _ _ _ | exact qHZ (by omega) (by omega) | exact qIZ (by omega) (by omega) | exact qAZ _ | exact qBZ _ _ _ | exact qCZ _ _ _) ?_ | refine qQZ (gV_F rfl) ?_ | refine qQZ (gV_T rfl) ?_))
      refine ih (k + 1) K' (by omega) (by omega) ?_
      rw [← mark_succ.1 (by rw [er, eo]; exact hne)]
      exact s2
    · (repeat (first | refine qQZ (qDZ _) ?_ | refine qQZ (qEZ _) ?_ | refine qQZ (qFZ _ _) ?_ | refine qQZ (qGZ _ _) ?_ | refine qQZ (by (try with_reducible first | refine gV_F ?_ | refine gV_T ?_); first | exact add_one (a := a + k) (by omega) | exact add_one (a := k) (by omega) | exact q1Z _ _ | exact q2Z _ _ _ | exact q3Z _ | exact q4Z _ | exact q5Z _ _ _ | exact q6Z _ _ _ | exact q7Z _ _ _ | exact q8Z _ _ _ | exact q9Z _ _ _ | exact q0Z _ _ _ | exact qHZ (by omega) (by omega) | exact qIZ (by omega) (by omega) | exact qAZ _ | exact qBZ _ _ _ | exact qCZ _ _ _) ?_ | refine qQZ (gV_F rfl) ?_ | refine qQZ (gV_T rfl) ?_))
      refine ih (k + 1) K (by omega) (by omega) ?_
      rw [← mark_succ.2 (by rw [er, eo]; exact Decidable.not_not.1 he)]
      exact h
theorem flags_party {G : Heap} {ov rv fv : Value} {own rec base : List Int} {j : Nat} (hq : Sl (qXZ (qXZ (eInt .u64))) G E.qv E.q) (hq7 : E.q.length ≤ 7) (hq3 : ∀ d, d < E.q.length → (E.q.getD d []).length ≤ 3) (ho : Sl (eInt .u64) G ov own) (hr : Sl (eInt .u64) G rv rec) (hor : rec.length = own.length) (hol : own.length = offs E.q E.q.length) (hph : PhAt G E) (hn : E.s.N = n) (hn7 : n ≤ 7) (hqn : E.q.length = n) (hj : j < n) (hbl : base.length = n * n) {x1 x2 x30 x31 : Value}
    {kn kx1 : Value → Value → Value → Value → Value → Value → Heap → Prop} {kx0 : Value → Heap → Prop} {Q : Ending → Heap → Prop}
    (hk : ∀ K, GI G K fv (flagJ own rec E.q n j base E.q.length) → kn (qTZ E.jp) x1 x2 fv x30 x31 K) :
    ∀ (r d : Nat) (K : Heap), E.q.length - d = r → d ≤ E.q.length → GI G K fv (flagJ own rec E.q n j base d) → L129_8 (qTZ E.jp) x1 x2 fv (.int .i64 j) ov rv (.int .i64 (offs E.q d)) x30 x31 E.qv (.int .i64 E.q.length) (.int .i64 d) K kn kx1 kx0 Q := by
  have hmo : ∀ d, d ≤ E.q.length → offs E.q d ≤ 21 := fun d hd => by
    have := offs_le hq3 d hd
    omega
  intro r
  induction r with
  | zero =>
    intro d K hd hk2 h
    apply L129_8_round
    unfold m129_9
    (repeat (first | refine qQZ (qDZ _) ?_ | refine qQZ (qEZ _) ?_ | refine qQZ (qFZ _ _) ?_ | refine qQZ (qGZ _ _) ?_ | refine qQZ (by (try with_reducible first | refine gV_F ?_ | refine gV_T ?_); first | exact q1Z _ _ | exact q2Z _ _ _ | exact q3Z _ | exact q4Z _ | exact q5Z _ _ _ | exact q6Z _ _ _ | exact q7Z _ _ _ | exact q8Z _ _ _ | exact q9Z _ _ _ | exact q0Z _ _ _ | exact qHZ (by omega) (by omega) | exact qIZ (by omega) (by omega) | exact qAZ _ | exact qBZ _ _ _ | exact qCZ _ _ _) ?_ | refine qQZ (gV_F rfl) ?_ | refine qQZ (gV_T rfl) ?_))
    refine qJZ (fun hlt => absurd hlt (by omega)) (fun _ => ?_)
    have e : d = E.q.length := by omega
    subst e
    exact hk K h
  | succ r ih =>
    intro d K hd hk2 h
    apply L129_8_round
    unfold m129_9
    (repeat (first | refine qQZ (qDZ _) ?_ | refine qQZ (qEZ _) ?_ | refine qQZ (qFZ _ _) ?_ | refine qQZ (qGZ _ _) ?_ | refine qQZ (by (try with_reducible first | refine gV_F ?_ | refine gV_T ?_); first | exact q1Z _ _ | exact q2Z _ _ _ | exact q3Z _ | exact q4Z _ | exact q5Z _ _ _ | exact q6Z _ _ _ | exact q7Z _ _ _ | exact q8Z _ _ _ | exact q9Z _ _ _ | exact q0Z _ _ _ | exact qHZ (by omega) (by omega) | exact qIZ (by omega) (by omega) | exact qAZ _ | exact qBZ _ _ _ | exact qCZ _ _ _) ?_ | refine qQZ (gV_F rfl) ?_ | refine qQZ (gV_T rfl) ?_))
    refine qJZ (fun hlt => ?_) (fun hlt => absurd (by omega) hlt)
    unfold m129_11 m129_12
    have hK := h.le
    have hdl : d < E.q.length := by omega
    obtain ⟨pq, uv, q1, q2, q3⟩ := hq.row hdl (ti := ty27) rfl
    (repeat (first | refine qQZ (qDZ _) ?_ | refine qQZ (qEZ _) ?_ | refine qQZ (qFZ _ _) ?_ | refine qQZ (qGZ _ _) ?_ | refine qQZ (by (try with_reducible first | refine gV_F ?_ | refine gV_T ?_); first | exact q1 | exact qKZ hK q2 | exact q3.len | exact q1Z _ _ | exact q2Z _ _ _ | exact q3Z _ | exact q4Z _ | exact q5Z _ _ _ | exact q6Z _ _ _ | exact q7Z _ _ _ | exact q8Z _ _ _ | exact q9Z _ _ _ | exact q0Z _ _ _ | exact qHZ (by omega) (by omega) | exact qIZ (by omega) (by omega) | exact qAZ _ | exact qBZ _ _ _ | exact qCZ _ _ _) ?_ | refine qQZ (gV_F rfl) ?_ | refine qQZ (gV_T rfl) ?_))
    have eq : E.q.getD d [] = E.q[d] := p6Z hdl
    have hsum := offs_succ hdl
    rw [eq] at hsum
    have hmono : offs E.q (d + 1) ≤ offs E.q E.q.length := by
      have step : ∀ k, d + 1 + k ≤ E.q.length → offs E.q (d + 1) ≤ offs E.q (d + 1 + k) := by
        intro k
        induction k with
        | zero => intro _; exact Nat.le_refl _
        | succ k ihk =>
          intro hk
          have h1 := ihk (by omega)
          have h2 := offs_succ (q := E.q) (d := d + 1 + k) (by omega)
          have h3 : d + 1 + (k + 1) = d + 1 + k + 1 := by omega
          rw [h3]
          omega
      have := step (E.q.length - (d + 1)) (by omega)
      rwa [show d + 1 + (E.q.length - (d + 1)) = E.q.length by omega] at this
    have hm1 := hmo E.q.length (Nat.le_refl _)
    have hpos : d * n + j < n * n := by
      have : (d + 1) * n ≤ n * n := Nat.mul_le_mul_right _ (by omega)
      rw [Nat.succ_mul] at this
      omega
    have h0 : mark own rec (offs E.q d) 0 (d * n + j) (flagJ own rec E.q n j base d) = flagJ own rec E.q n j base d := rfl
    refine flags_in (own := own) (rec := rec) (base := flagJ own rec E.q n j base d) (m := E.q[d].length) (a := offs E.q d) ho hr hor (by omega) (by omega) hph hn hn7 (d := d) (j := j) (by omega) (by omega) (by rw [flagJ_len, hbl]; exact hpos) (fun K' h' => ?_) _ 0 K rfl (by omega) (by rw [h0]; exact h)
    unfold m129_10
    (repeat (first | refine qQZ (qDZ _) ?_ | refine qQZ (qEZ _) ?_ | refine qQZ (qFZ _ _) ?_ | refine qQZ (qGZ _ _) ?_ | refine qQZ (by (try with_reducible first | refine gV_F ?_ | refine gV_T ?_); first | exact add_one (a := d) (by omega) | exact q1Z _ _ | exact q2Z _ _ _ | exact q3Z _ | exact q4Z _ | exact q5Z _ _ _ | exact q6Z _ _ _ | exact q7Z _ _ _ | exact q8Z _ _ _ | exact q9Z _ _ _ | exact q0Z _ _ _ | exact qHZ (by omega) (by omega) | exact qIZ (by omega) (by omega) | exact qAZ _ | exact qBZ _ _ _ | exact qCZ _ _ _) ?_ | refine qQZ (gV_F rfl) ?_ | refine qQZ (gV_T rfl) ?_))
    rw [← hsum]
    refine ih (d + 1) K' (by omega) (by omega) ?_
    rw [flagJ, eq]
    exact h'
theorem VSt.monoH (h : VSt E R H tg rd views ts S Rws Fl) {K : Heap} (hl : Le H K) : VSt E R K tg rd views ts S Rws Fl := h.stays (h.lab.mono hl) (Le.refl _) fun j _ _ => ⟨rfl, fun b c _ hc => hl b c hc⟩
theorem flags_spec {Ri : List (List (List Int))} {hv : Value} {hd : List (List Int)} (hp : Supp E.s.P) (hn : E.s.N = n) (hn7 : n ≤ 7) (hqn : E.q.length = n) (hq3 : ∀ d, d < E.q.length → (E.q.getD d []).length ≤ 3) (h : VSt E R H tg rd views ts S Rws Fl) (hRl : Rws.length = n) (hi : i < n) (hRi : Rws.getD i [] = Ri) (hok : RwOk E.s.P E.q Ri) (hh : Sl (qXZ (eInt .u64)) R hv hd) (hhl : hd.length = n) :
    qVZ Tryd.prog 129 [qTZ E.jp, .int .i64 i, hv] H (Ret fun v H' => ∃ N, New H H' N ∧ Sl (eInt .u64) N v (flagsAcc E.s.P n E.q i Ri hd n)) := by
  have hl := h.lab.le
  have ph := h.ph.mono hl
  have phn := ph.n
  rw [hn] at phn
  have hnn : n * n ≤ 7 * 7 := Nat.mul_le_mul hn7 hn7
  apply call129
  unfold m129
  (repeat (first | refine qQZ (qDZ _) ?_ | refine qQZ (qEZ _) ?_ | refine qQZ (qFZ _ _) ?_ | refine qQZ (qGZ _ _) ?_ | refine qQZ (by (try with_reducible first | refine gV_F ?_ | refine gV_T ?_); first | exact phn | exact mul_nat (a := n) (b := n) (by omega) | exact q1Z _ _ | exact q2Z _ _ _ | exact q3Z _ | exact q4Z _ | exact q5Z _ _ _ | exact q6Z _ _ _ | exact q7Z _ _ _ | exact q8Z _ _ _ | exact q9Z _ _ _ | exact q0Z _ _ _ | exact qHZ (by omega) (by omega) | exact qIZ (by omega) (by omega) | exact qAZ _ | exact qBZ _ _ _ | exact qCZ _ _ _) ?_ | refine qQZ (gV_F rfl) ?_ | refine qQZ (gV_T rfl) ?_))
  refine GI.make (by omega) fun fv H1 hf => ?_
  unfold m129_2
  (repeat (first | refine qQZ (qDZ _) ?_ | refine qQZ (qEZ _) ?_ | refine qQZ (qFZ _ _) ?_ | refine qQZ (qGZ _ _) ?_ | refine qQZ (by (try with_reducible first | refine gV_F ?_ | refine gV_T ?_); first | exact qKZ hf.le phn | exact q1Z _ _ | exact q2Z _ _ _ | exact q3Z _ | exact q4Z _ | exact q5Z _ _ _ | exact q6Z _ _ _ | exact q7Z _ _ _ | exact q8Z _ _ _ | exact q9Z _ _ _ | exact q0Z _ _ _ | exact qHZ (by omega) (by omega) | exact qIZ (by omega) (by omega) | exact qAZ _ | exact qBZ _ _ _ | exact qCZ _ _ _) ?_ | refine qQZ (gV_F rfl) ?_ | refine qQZ (gV_T rfl) ?_))
  suffices key : ∀ (r j : Nat) (K : Heap), n - j = r → j ≤ n → GI H K fv (flagsAcc E.s.P n E.q i Ri hd j) → L129_3 (qTZ E.jp) (.int .i64 i) hv fv (.int .i64 n) (.int .i64 j) K _ _ from key _ 0 H1 rfl (by omega) hf
  intro r
  induction r with
  | zero =>
    intro j K hr hj h1
    apply L129_3_round
    unfold m129_4
    (repeat (first | refine qQZ (qDZ _) ?_ | refine qQZ (qEZ _) ?_ | refine qQZ (qFZ _ _) ?_ | refine qQZ (qGZ _ _) ?_ | refine qQZ (by (try with_reducible first | refine gV_F ?_ | refine gV_T ?_); first | exact q1Z _ _ | exact q2Z _ _ _ | exact q3Z _ | exact q4Z _ | exact q5Z _ _ _ | exact q6Z _ _ _ | exact q7Z _ _ _ | exact q8Z _ _ _ | exact q9Z _ _ _ | exact q0Z _ _ _ | exact qHZ (by omega) (by omega) | exact qIZ (by omega) (by omega) | exact qAZ _ | exact qBZ _ _ _ | exact qCZ _ _ _) ?_ | refine qQZ (gV_F rfl) ?_ | refine qQZ (gV_T rfl) ?_))
    refine qJZ (fun hlt => absurd hlt (by omega)) (fun _ => ?_)
    unfold m129_1
    have e : j = n := by omega
    subst e
    obtain ⟨N, hN, hs⟩ := h1.made
    exact ⟨N, hN, hs⟩
  | succ r ih =>
    intro j K hr hj h1
    apply L129_3_round
    unfold m129_4
    (repeat (first | refine qQZ (qDZ _) ?_ | refine qQZ (qEZ _) ?_ | refine qQZ (qFZ _ _) ?_ | refine qQZ (qGZ _ _) ?_ | refine qQZ (by (try with_reducible first | refine gV_F ?_ | refine gV_T ?_); first | exact q1Z _ _ | exact q2Z _ _ _ | exact q3Z _ | exact q4Z _ | exact q5Z _ _ _ | exact q6Z _ _ _ | exact q7Z _ _ _ | exact q8Z _ _ _ | exact q9Z _ _ _ | exact q0Z _ _ _ | exact qHZ (by omega) (by omega) | exact qIZ (by omega) (by omega) | exact qAZ _ | exact qBZ _ _ _ | exact qCZ _ _ _) ?_ | refine qQZ (gV_F rfl) ?_ | refine qQZ (gV_T rfl) ?_))
    refine qJZ (fun hlt => ?_) (fun hlt => absurd (by omega) hlt)
    unfold m129_6 m129_7
    (repeat (first | refine qQZ (qDZ _) ?_ | refine qQZ (qEZ _) ?_ | refine qQZ (qFZ _ _) ?_ | refine qQZ (qGZ _ _) ?_ | refine qQZ (by (try with_reducible first | refine gV_F ?_ | refine gV_T ?_); first | exact q1Z _ _ | exact q2Z _ _ _ | exact q3Z _ | exact q4Z _ | exact q5Z _ _ _ | exact q6Z _ _ _ | exact q7Z _ _ _ | exact q8Z _ _ _ | exact q9Z _ _ _ | exact q0Z _ _ _ | exact qHZ (by omega) (by omega) | exact qIZ (by omega) (by omega) | exact qAZ _ | exact qBZ _ _ _ | exact qCZ _ _ _) ?_ | refine qQZ (gV_F rfl) ?_ | refine qQZ (gV_T rfl) ?_))
    refine qJZ (fun he => ?_) (fun hne => ?_)
    · unfold m129_5
      (repeat (first | refine qQZ (qDZ _) ?_ | refine qQZ (qEZ _) ?_ | refine qQZ (qFZ _ _) ?_ | refine qQZ (qGZ _ _) ?_ | refine qQZ (by (try with_reducible first | refine gV_F ?_ | refine gV_T ?_); first | exact add_one (a := j) (by omega) | exact q1Z _ _ | exact q2Z _ _ _ | exact q3Z _ | exact q4Z _ | exact q5Z _ _ _ | exact q6Z _ _ _ | exact q7Z _ _ _ | exact q8Z _ _ _ | exact q9Z _ _ _ | exact q0Z _ _ _ | exact qHZ (by omega) (by omega) | exact qIZ (by omega) (by omega) | exact qAZ _ | exact qBZ _ _ _ | exact qCZ _ _ _) ?_ | refine qQZ (gV_F rfl) ?_ | refine qQZ (gV_T rfl) ?_))
      refine ih (j + 1) K (by omega) (by omega) ?_
      rw [flagsAcc, if_pos (by omega)]
      exact h1
    · have h2 := h.monoH h1.le
      (repeat (first | refine qQZ (qDZ _) ?_ | refine qQZ (qEZ _) ?_ | refine qQZ (qFZ _ _) ?_ | refine qQZ (qGZ _ _) ?_ | refine qQZ (by (try with_reducible first | refine gV_F ?_ | refine gV_T ?_); first | exact add_one (a := j) (by omega) | exact q1Z _ _ | exact q2Z _ _ _ | exact q3Z _ | exact q4Z _ | exact q5Z _ _ _ | exact q6Z _ _ _ | exact q7Z _ _ _ | exact q8Z _ _ _ | exact q9Z _ _ _ | exact q0Z _ _ _ | exact qHZ (by omega) (by omega) | exact qIZ (by omega) (by omega) | exact qAZ _ | exact qBZ _ _ _ | exact qCZ _ _ _) ?_ | refine qQZ (gV_F rfl) ?_ | refine qQZ (gV_T rfl) ?_))
      refine p9Z (values_spec hp (by omega) hq3 h2 (by omega) hRi hok (x := j + 1) (by omega)) fun ov K1 ho => ?_
      obtain ⟨N1, hN1, so⟩ := ho.made
      have f1 : GI (hun H N1) K1 fv (flagsAcc E.s.P n E.q i Ri hd j) := Grown.news h1 hN1
      have hjl : j < hd.length := by omega
      obtain ⟨pm, mv, a1, a2, a3⟩ := hh.row hjl (ti := ty52) rfl
      have lRK1 : Le R K1 := (hl.trans h1.le).trans hN1.1
      have so1 := so.mono hN1.2.1
      (repeat (first | refine qQZ (qDZ _) ?_ | refine qQZ (qEZ _) ?_ | refine qQZ (qFZ _ _) ?_ | refine qQZ (qGZ _ _) ?_ | refine qQZ (by (try with_reducible first | refine gV_F ?_ | refine gV_T ?_); first | exact a1 | exact qKZ lRK1 a2 | exact so1.len | exact q1Z _ _ | exact q2Z _ _ _ | exact q3Z _ | exact q4Z _ | exact q5Z _ _ _ | exact q6Z _ _ _ | exact q7Z _ _ _ | exact q8Z _ _ _ | exact q9Z _ _ _ | exact q0Z _ _ _ | exact qHZ (by omega) (by omega) | exact qIZ (by omega) (by omega) | exact qAZ _ | exact qBZ _ _ _ | exact qCZ _ _ _) ?_ | refine qQZ (gV_F rfl) ?_ | refine qQZ (gV_T rfl) ?_))
      have hvl : (valsOf E.s.P Ri ((j + 1 : Nat) : Int)).length = offs E.q E.q.length := hok.vals
      have hole := offs_le hq3 E.q.length (Nat.le_refl _)
      refine p9Z (resize_spec (a3.mono lRK1) (n := (valsOf E.s.P Ri ((j + 1 : Nat) : Int)).length) (by omega)) fun rv K2 hrv => ?_
      obtain ⟨N2, hN2, sr⟩ := GI.made (G := K1) (H := K2) (v := rv) (xs := rsz hd[j] (valsOf E.s.P Ri ((j + 1 : Nat) : Int)).length) (by unfold GI; rw [rsz_len]; exact hrv)
      have f2 : GI (hun (hun H N1) N2) K2 fv (flagsAcc E.s.P n E.q i Ri hd j) := Grown.news f1 hN2
      have lH2 : Le H (hun (hun H N1) N2) := (qNZ H N1).trans (qNZ _ N2)
      have lR2 := hl.trans lH2
      have ph2 := h.ph.mono lR2
      (repeat (first | refine qQZ (qDZ _) ?_ | refine qQZ (qEZ _) ?_ | refine qQZ (qFZ _ _) ?_ | refine qQZ (qGZ _ _) ?_ | refine qQZ (by (try with_reducible first | refine gV_F ?_ | refine gV_T ?_); first | exact (ph2.mono f2.le).q | exact h.q.len | exact q1Z _ _ | exact q2Z _ _ _ | exact q3Z _ | exact q4Z _ | exact q5Z _ _ _ | exact q6Z _ _ _ | exact q7Z _ _ _ | exact q8Z _ _ _ | exact q9Z _ _ _ | exact q0Z _ _ _ | exact qHZ (by omega) (by omega) | exact qIZ (by omega) (by omega) | exact qAZ _ | exact qBZ _ _ _ | exact qCZ _ _ _) ?_ | refine qQZ (gV_F rfl) ?_ | refine qQZ (gV_T rfl) ?_))
      have e0 : (Value.int .i64 (0 : Int)) = .int .i64 ((offs E.q 0 : Nat) : Int) := rfl
      rw [e0]
      refine flags_party (h.q.mono lR2) (by omega) hq3 (own := valsOf E.s.P Ri ((j + 1 : Nat) : Int)) (rec := rsz hd[j] (valsOf E.s.P Ri ((j + 1 : Nat) : Int)).length) (base := flagsAcc E.s.P n E.q i Ri hd j) ((so.mono (hN1.right h1.le)).mono (qNZ _ _)) (sr.mono (hN2.right f1.le)) (by rw [rsz_len]) hvl ph2 hn hn7 hqn (by omega) (flagsAcc_len _ _ _ _ _ _ _) (fun K' h' => ?_) _ 0 K2 rfl (by omega) f2
      unfold m129_5
      (repeat (first | refine qQZ (qDZ _) ?_ | refine qQZ (qEZ _) ?_ | refine qQZ (qFZ _ _) ?_ | refine qQZ (qGZ _ _) ?_ | refine qQZ (by (try with_reducible first | refine gV_F ?_ | refine gV_T ?_); first | exact add_one (a := j) (by omega) | exact q1Z _ _ | exact q2Z _ _ _ | exact q3Z _ | exact q4Z _ | exact q5Z _ _ _ | exact q6Z _ _ _ | exact q7Z _ _ _ | exact q8Z _ _ _ | exact q9Z _ _ _ | exact q0Z _ _ _ | exact qHZ (by omega) (by omega) | exact qIZ (by omega) (by omega) | exact qAZ _ | exact qBZ _ _ _ | exact qCZ _ _ _) ?_ | refine qQZ (gV_F rfl) ?_ | refine qQZ (gV_T rfl) ?_))
      refine ih (j + 1) K' (by omega) (by omega) ?_
      have hlast := Grown.less h' lH2
      have e1 : hd.getD j [] = hd[j] := p6Z hjl
      rw [flagsAcc, if_neg (by omega), e1]
      exact hlast
def flagsAll (p : Int) (n : Nat) (q : List (List (List Int))) (Rws : List (List (List (List Int)))) (heard : List (List (List Int))) : List (List Int) := (List.range n).map fun (i : Nat) => flagsAcc p n q i (Rws.getD i []) (heard.getD i []) n
theorem flagsAll_len {p : Int} {n : Nat} {q : List (List (List Int))} {Rws : List (List (List (List Int)))} {heard : List (List (List Int))} : (flagsAll p n q Rws heard).length = n := by simp [flagsAll]
theorem flagsAll_at {p : Int} {n i : Nat} {q : List (List (List Int))} {Rws : List (List (List (List Int)))} {heard : List (List (List Int))} (hi : i < n) : (flagsAll p n q Rws heard)[i]'(by rw [flagsAll_len]; exact hi) = flagsAcc p n q i (Rws.getD i []) (heard.getD i []) n := by simp [flagsAll]
theorem flagsAll_msgs {p : Int} {n : Nat} {q : List (List (List Int))} {Rws : List (List (List (List Int)))} {heard : List (List (List Int))} (hp : 1 < p) (hn7 : n ≤ 7) : Msgs p n (flagsAll p n q Rws heard) := by
  refine ⟨by rw [flagsAll_len], fun r hr => ?_⟩
  simp only [flagsAll, List.mem_map, List.mem_range] at hr
  obtain ⟨i, hi, rfl⟩ := hr
  refine ⟨(flagsAcc_bit n).rng hp, ?_⟩
  rw [flagsAcc_len]
  have : n * n ≤ 7 * 7 := Nat.mul_le_mul hn7 hn7
  omega
def RwP (R : Heap) (F : Nat → Prop) (H : Heap) (v : Value) (rows : List (List Int)) : Prop := ∃ us, us.length = rows.length ∧ Own 1 52 H v rows.length us ∧ (∀ b, blkOf v = some b → F b) ∧ ∀ (j : Nat) u r, us[j]? = some u → rows[j]? = some r → Sl (eInt .u64) R u r
theorem RwP.keep {R R' H H' : Heap} {F : Nat → Prop} {v : Value} {rows : List (List Int)} (h : RwP R F H v rows) (l1 : Le R R') (k : ∀ b c, F b → H b = some c → H' b = some c) : RwP R' F H' v rows := by
  obtain ⟨us, h1, h2, h3, h4⟩ := h
  refine ⟨us, h1, h2.mono fun b hb => ?_, h3, fun j u r hu hr => (h4 j u r hu hr).mono l1⟩
  obtain ⟨_, _, e⟩ := h2.at_ hb
  rw [e, k b _ (h3 b hb) e]
theorem RwP.stay {R R' H H' : Heap} {tg tg' : Nat → Nat} {v : Value} {rows : List (List Int)} {j : Nat} (h : RwP R (Pt tg j) H v rows) (lR : Le R R') (st : Stays tg tg' H H' j) : RwP R' (Pt tg' j) H' v rows := by
  rw [st.1]
  exact h.keep lR fun b c hb hc => st.2 b c hb hc
theorem RwP.sl {R H K : Heap} {F : Nat → Prop} {v : Value} {rows : List (List Int)} (h : RwP R F H v rows) (l1 : Le R K) (k : ∀ b c, F b → H b = some c → K b = some c) : Sl (qXZ (eInt .u64)) K v rows := by
  obtain ⟨us, h1, h2, h3, h4⟩ := h.keep l1 k
  exact rows_sl h2 fun j hj => ⟨us[j]'(by omega), List.getElem?_eq_getElem _, h4 j _ _ (List.getElem?_eq_getElem _) (List.getElem?_eq_getElem hj)⟩
theorem RwP.one {R H : Heap} {F : Nat → Prop} {v : Value} {rows : List (List Int)} (h : RwP R F H v rows) : v.oneCell' = true := by
  obtain ⟨us, h1, h2, h3, h4⟩ := h
  rcases h2 with ⟨rfl, _⟩ | ⟨_, _, rfl, _⟩ <;> rfl
theorem RwP.put {R H : Heap} {F : Nat → Prop} {v u : Value} {rows : List (List Int)} {r : List Int} {j : Nat} (h : RwP R F H v rows) (hl : Le R H) (hk : ∀ b, F b → H b ≠ none) (hf : ∀ b, F b → R b = none) (hj : j < rows.length) (hu : Sl (eInt .u64) R u r) :
    ∃ pt H', p1Z 1 v (.int .i64 j) = some pt ∧ p2Z ty52 pt u H = some H' ∧ Mv R H F R H' F ∧ RwP R F H' v (rows.set j r) := by
  obtain ⟨us, h1, h2, h3, h4⟩ := h
  obtain ⟨jo, cap, rfl, b1, _, b3, b4⟩ := (show Grown (fun _ => none) H 1 52 v rows.length us from ⟨fun i c hc => (by cases hc), h2, fun _ _ => rfl⟩).ixb hj
  obtain ⟨s1, s2⟩ := b4 ty52 u rfl rfl hu.cell.2
  have hFj : F jo := h3 jo rfl
  refine ⟨_, _, b3, s1, ⟨Le.refl _, hl.put (hf jo hFj), fun b hb => .inl hb, fun b c hb hF => ?_, Wide.refl _ _, fun b hb => ?_, hf⟩, us.set j u, by simpa using h1, by rw [List.length_set]; exact s2.2.1, h3, fun k x y hx hy => ?_⟩
  · rw [qOZ _ _ (fun e => by subst e; exact hF hFj)]
    exact hb
  · by_cases e : b = jo
    · subst e; rw [hins_self]; simp
    · rw [qOZ _ _ e]; exact hk b hb
  · by_cases e : j = k
    · subst e
      rw [List.getElem?_set_self (by omega)] at hx hy
      cases hx
      cases hy
      exact hu
    · rw [List.getElem?_set_ne e] at hx hy
      exact h4 k x y hx hy
end
end

section
open Go

def flagsT (n : Nat) (all : List (List Int)) : List (List (List Int)) := (List.range n).map fun (i : Nat) => chunks n n (rsz (all.getD i []) (n * n))
theorem flagsT_len {n : Nat} {all : List (List Int)} : (flagsT n all).length = n := by simp [flagsT]
theorem flagsT_at {n i : Nat} {all : List (List Int)} (hi : i < n) : (flagsT n all).getD i [] = chunks n n (rsz (all.getD i []) (n * n)) := by
  rw [p6Z (by rw [flagsT_len]; exact hi)]
  simp [flagsT]
section
variable {E : Ctx} {R H : Heap} {tg : Nat → Nat} {rd : Int} {views : List (List Ev)} {ts : List (List Int × Nat)} {S Rws : List (List (List (List Int)))} {Fl : List (List (List Int))} {a i b c w n x : Nat}
theorem cpl1_spec {hv fv : Value} {heard : List (List (List Int))} (hp : Supp E.s.P) (hn : E.s.N = n) (hn7 : n ≤ 7) (hqn : E.q.length = n) (hq3 : ∀ d, d < E.q.length → (E.q.getD d []).length ≤ 3) (hRl : Rws.length = n) (hok : ∀ i, i < n → RwOk E.s.P E.q (Rws.getD i [])) (hhl : heard.length = n) (hhr : ∀ i, i < n → (heard.getD i []).length = n) (h : VSt E R H tg rd views ts S Rws Fl) (hb : Box R b (qTZ E.jp)) (ha : Box R a hv) (hc : Box R c fv) (hh : Sl (qXZ (qXZ (eInt .u64))) R hv heard)
    (hr : RwP R (Pt tg 6) H fv ((flagsAll E.s.P n E.q Rws heard).take i ++ (List.replicate n ([] : List Int)).drop i)) (hi : i < n) :
    qVZ Tryd.prog 128 [.int .i64 i, qTZ b, qTZ a, qTZ c] H (After R H tg 7 fun R' H' tg' => VSt E R' H' tg' rd views ts S Rws Fl ∧ RwP R' (Pt tg' 6) H' fv ((flagsAll E.s.P n E.q Rws heard).take (i + 1) ++ (List.replicate n ([] : List Int)).drop (i + 1))) := by
  have hAB : (flagsAll E.s.P n E.q Rws heard).length = (List.replicate n ([] : List Int)).length := by rw [flagsAll_len]; simp
  apply call128
  unfold m128
  have hl := h.lab.le
  have hil : i < heard.length := by omega
  have eh : heard.getD i [] = heard[i] := p6Z hil
  have ehr := hhr i hi
  rw [eh] at ehr
  obtain ⟨pi, uv, i1, i2, i3⟩ := hh.row hil (ti := ty27) rfl
  (repeat (first | refine qQZ (qDZ _) ?_ | refine qQZ (qEZ _) ?_ | refine qQZ (qFZ _ _) ?_ | refine qQZ (qGZ _ _) ?_ | refine qQZ (by (try with_reducible first | refine gV_F ?_ | refine gV_T ?_); first | exact (hc.mono hl).ld rfl | exact (hb.mono hl).ld rfl | exact (ha.mono hl).ld rfl | exact i1 | exact qKZ hl i2 | exact q1Z _ _ | exact q2Z _ _ _ | exact q3Z _ | exact q4Z _ | exact q5Z _ _ _ | exact q6Z _ _ _ | exact q7Z _ _ _ | exact q8Z _ _ _ | exact q9Z _ _ _ | exact q0Z _ _ _ | exact qHZ (by omega) (by omega) | exact qIZ (by omega) (by omega) | exact qAZ _ | exact qBZ _ _ _ | exact qCZ _ _ _) ?_ | refine qQZ (gV_F rfl) ?_ | refine qQZ (gV_T rfl) ?_))
  refine p9Z (flags_spec hp hn hn7 hqn hq3 h hRl hi rfl (hok i hi) i3 ehr) fun lv K1 hlv => ?_
  obtain ⟨N, hN, hsl⟩ := hlv
  have h2 := h.news hN
  have hl2 := h2.lab.le
  have hr2 := hr.stay (qNZ R N) (Stays.news (tg := tg) hN)
  obtain ⟨pt, K2, p1, p2, p3, p4⟩ := hr2.put (j := i) hl2 (h2.kn (by decide)) (h2.fr (by decide)) (by rw [mix_len hAB (by simp; omega)]; simp; omega) (hsl.mono (hN.right hl))
  refine ⟨(((hc.mono (qNZ R N)).mono hl2)).ld rfl, qQZ p1 (p8Z p2 ?_)⟩
  obtain ⟨tg2, h3, e3, o3⟩ := h2.mvOther (by decide) p3
  have hA : i < (flagsAll E.s.P n E.q Rws heard).length := by rw [flagsAll_len]; exact hi
  have ex := flagsAll_at (p := E.s.P) (q := E.q) (Rws := Rws) (heard := heard) hi
  rw [eh] at ex
  rw [← ex, mix_set hAB (by simp; omega), ← e3] at p4
  exact ⟨hun R N, tg2, qNZ _ _, ⟨h3, p4⟩, fun j hj => (Stays.news hN).trans (o3 j (by omega) (by omega))⟩
theorem cpl2_spec {av : Value} {all : List (List Int)} (hn : E.s.N = n) (hn7 : n ≤ 7) (hn0 : 0 < n) (hal : all.length = n) (h : VSt E R H tg rd views ts S Rws (fillG (flagsT n all) i 0)) (hb : Box R b (qTZ E.jp)) (ha : Box R a av) (hh : Sl (qXZ (eInt .u64)) R av all) (hi : i < n) :
    qVZ Tryd.prog 130 [.int .i64 i, qTZ a, qTZ b] H (After R H tg 6 fun R' H' tg' => VSt E R' H' tg' rd views ts S Rws (fillG (flagsT n all) (i + 1) 0)) := by
  have hoi : i < (flagsT n all).length := by rw [flagsT_len]; exact hi
  have eoi : ((flagsT n all).getD i []).length = n := by rw [flagsT_at hi, chunks_len]
  have hnn : n * n ≤ 7 * 7 := Nat.mul_le_mul hn7 hn7
  apply call130
  unfold m130
  have hl := h.lab.le
  have phn := (h.ph.mono hl).n
  rw [hn] at phn
  have hil : i < all.length := by omega
  have ei : all.getD i [] = all[i] := p6Z hil
  obtain ⟨pm, mv, m1, m2, m3⟩ := hh.row hil (ti := ty52) rfl
  (repeat (first | refine qQZ (qDZ _) ?_ | refine qQZ (qEZ _) ?_ | refine qQZ (qFZ _ _) ?_ | refine qQZ (qGZ _ _) ?_ | refine qQZ (by (try with_reducible first | refine gV_F ?_ | refine gV_T ?_); first | exact (ha.mono hl).ld rfl | exact m1 | exact qKZ hl m2 | exact (hb.mono hl).ld rfl | exact phn | exact mul_nat (a := n) (b := n) (by omega) | exact q1Z _ _ | exact q2Z _ _ _ | exact q3Z _ | exact q4Z _ | exact q5Z _ _ _ | exact q6Z _ _ _ | exact q7Z _ _ _ | exact q8Z _ _ _ | exact q9Z _ _ _ | exact q0Z _ _ _ | exact qHZ (by omega) (by omega) | exact qIZ (by omega) (by omega) | exact qAZ _ | exact qBZ _ _ _ | exact qCZ _ _ _) ?_ | refine qQZ (gV_F rfl) ?_ | refine qQZ (gV_T rfl) ?_))
  refine p9Z (resize_spec (m3.mono hl) (n := n * n) (by omega)) fun lv K1 hlv => ?_
  obtain ⟨N, hN, hsl⟩ := GI.made (G := H) (H := K1) (v := lv) (xs := rsz all[i] (n * n)) (by unfold GI; rw [rsz_len]; exact hlv)
  have h2 := h.news hN
  have hl2 := h2.lab.le
  have lv2 := hsl.mono (hN.right hl)
  have hb2 := hb.mono (qNZ R N)
  have phn2 := (h2.ph.mono hl2).n
  rw [hn] at phn2
  (repeat (first | refine qQZ (qDZ _) ?_ | refine qQZ (qEZ _) ?_ | refine qQZ (qFZ _ _) ?_ | refine qQZ (qGZ _ _) ?_ | refine qQZ (by (try with_reducible first | refine gV_F ?_ | refine gV_T ?_); first | exact (hb2.mono hl2).ld rfl | exact phn2 | exact q1Z _ _ | exact q2Z _ _ _ | exact q3Z _ | exact q4Z _ | exact q5Z _ _ _ | exact q6Z _ _ _ | exact q7Z _ _ _ | exact q8Z _ _ _ | exact q9Z _ _ _ | exact q0Z _ _ _ | exact qHZ (by omega) (by omega) | exact qIZ (by omega) (by omega) | exact qAZ _ | exact qBZ _ _ _ | exact qCZ _ _ _) ?_ | refine qQZ (gV_F rfl) ?_ | refine qQZ (gV_T rfl) ?_))
  suffices key : ∀ (d k : Nat) (R1 K : Heap) (tg1 : Nat → Nat), n - k = d → k ≤ n → Le (hun R N) R1 → VSt E R1 K tg1 rd views ts S Rws (fillG (flagsT n all) i k) → (∀ j, 6 ≤ j → Stays tg tg1 H K j) →
      L130_1 (.int .i64 i) (qTZ b) lv (.int .i64 n) (.int .i64 k) K _ _ from key _ 0 (hun R N) K1 tg rfl (by omega) (Le.refl _) h2 fun j _ => Stays.news hN
  intro d
  induction d with
  | zero =>
    intro k R1 K tg1 hd hk lR h1 st
    apply L130_1_round
    unfold m130_2
    (repeat (first | refine qQZ (qDZ _) ?_ | refine qQZ (qEZ _) ?_ | refine qQZ (qFZ _ _) ?_ | refine qQZ (qGZ _ _) ?_ | refine qQZ (by (try with_reducible first | refine gV_F ?_ | refine gV_T ?_); first | exact q1Z _ _ | exact q2Z _ _ _ | exact q3Z _ | exact q4Z _ | exact q5Z _ _ _ | exact q6Z _ _ _ | exact q7Z _ _ _ | exact q8Z _ _ _ | exact q9Z _ _ _ | exact q0Z _ _ _ | exact qHZ (by omega) (by omega) | exact qIZ (by omega) (by omega) | exact qAZ _ | exact qBZ _ _ _ | exact qCZ _ _ _) ?_ | refine qQZ (gV_F rfl) ?_ | refine qQZ (gV_T rfl) ?_))
    refine qJZ (fun hlt => absurd hlt (by omega)) (fun _ => ?_)
    have e : k = ((flagsT n all).getD i []).length := by omega
    subst e
    rw [fillG_next hoi] at h1
    exact ⟨R1, tg1, (qNZ R N).trans lR, h1, st⟩
  | succ d ih =>
    intro k R1 K tg1 hd hk lR h1 st
    have hl1 := h1.lab.le
    have hb1 := (hb2.mono lR).mono hl1
    have ph1 := h1.ph.mono hl1
    have phn1 := ph1.n
    rw [hn] at phn1
    apply L130_1_round
    unfold m130_2
    (repeat (first | refine qQZ (qDZ _) ?_ | refine qQZ (qEZ _) ?_ | refine qQZ (qFZ _ _) ?_ | refine qQZ (qGZ _ _) ?_ | refine qQZ (by (try with_reducible first | refine gV_F ?_ | refine gV_T ?_); first | exact q1Z _ _ | exact q2Z _ _ _ | exact q3Z _ | exact q4Z _ | exact q5Z _ _ _ | exact q6Z _ _ _ | exact q7Z _ _ _ | exact q8Z _ _ _ | exact q9Z _ _ _ | exact q0Z _ _ _ | exact qHZ (by omega) (by omega) | exact qIZ (by omega) (by omega) | exact qAZ _ | exact qBZ _ _ _ | exact qCZ _ _ _) ?_ | refine qQZ (gV_F rfl) ?_ | refine qQZ (gV_T rfl) ?_))
    refine qJZ (fun hlt => ?_) (fun hlt => absurd (by omega) hlt)
    have hkn : k < n := by omega
    have b1 : (k + 1) * n ≤ n * n := Nat.mul_le_mul_right _ hkn
    have b3 : (k + 1) * n = k * n + n := Nat.succ_mul _ _
    obtain ⟨sv, s1, s2⟩ := (lv2.mono lR).part (k1 := .i64) (k2 := .i64) (a := k * n) (b := (k + 1) * n) (by rw [rsz_len]; omega) (by omega) (by rw [rsz_len]; omega)
    rw [show (k + 1) * n - k * n = n by omega] at s2
    have hgi : (fillG (flagsT n all) i k).getD i [] = ((flagsT n all).getD i []).take k := fillG_get hoi
    obtain ⟨pg, ug, g1, g2, g3⟩ := h1.gF.push (te := ty52) (j := i) rfl hl1 (h1.kn (by decide)) (h1.fr (by decide)) (by decide) (by rw [fillG_len]; exact hoi) rfl rfl (by decide) (x := ((rsz all[i] (n * n)).drop (k * n)).take n) (w := sv) ⟨sv, rfl, s2⟩ s2.cell.1 s2.cell.2 (by rw [hgi, List.length_take]; omega)
    (repeat (first | refine qQZ (qDZ _) ?_ | refine qQZ (qEZ _) ?_ | refine qQZ (qFZ _ _) ?_ | refine qQZ (qGZ _ _) ?_ | refine qQZ (by (try with_reducible first | refine gV_F ?_ | refine gV_T ?_); first | exact hb1.ld rfl | exact ph1.fv | exact g1 | exact g2 _ rfl | exact phn1 | exact mul_nat (a := k) (b := n) (by omega) | exact add_one (a := k) (by omega) | exact mul_nat (a := k + 1) (b := n) (by omega) | exact s1 | exact q1Z _ _ | exact q2Z _ _ _ | exact q3Z _ | exact q4Z _ | exact q5Z _ _ _ | exact q6Z _ _ _ | exact q7Z _ _ _ | exact q8Z _ _ _ | exact q9Z _ _ _ | exact q0Z _ _ _ | exact qHZ (by omega) (by omega) | exact qIZ (by omega) (by omega) | exact qAZ _ | exact qBZ _ _ _ | exact qCZ _ _ _) ?_ | refine qQZ (gV_F rfl) ?_ | refine qQZ (gV_T rfl) ?_))
    refine g3 _ fun u' K4 K5 F' c1 c2 c3 c4 => ?_
    have hl4 := c1.leR hl1 (h1.fr (by decide))
    have ph4 := h1.ph.mono hl4
    have hb4 := (hb2.mono lR).mono hl4
    refine ⟨ph4.fv, hb4.ld rfl, qQZ g1 (p8Z c2 ?_)⟩
    (repeat (first | refine qQZ (qDZ _) ?_ | refine qQZ (qEZ _) ?_ | refine qQZ (qFZ _ _) ?_ | refine qQZ (qGZ _ _) ?_ | refine qQZ (by (try with_reducible first | refine gV_F ?_ | refine gV_T ?_); first | exact add_one (a := k) (by omega) | exact q1Z _ _ | exact q2Z _ _ _ | exact q3Z _ | exact q4Z _ | exact q5Z _ _ _ | exact q6Z _ _ _ | exact q7Z _ _ _ | exact q8Z _ _ _ | exact q9Z _ _ _ | exact q0Z _ _ _ | exact qHZ (by omega) (by omega) | exact qIZ (by omega) (by omega) | exact qAZ _ | exact qBZ _ _ _ | exact qCZ _ _ _) ?_ | refine qQZ (gV_F rfl) ?_ | refine qQZ (gV_T rfl) ?_))
    obtain ⟨tg2, h5, o5⟩ := h1.mvF c3 c4
    rw [hgi] at h5
    have hkk : k < ((flagsT n all).getD i []).length := by omega
    have ex : ((rsz all[i] (n * n)).drop (k * n)).take n = ((flagsT n all).getD i [])[k]'hkk := by
      have h6 := chunks_at (w := n) (n := n) (l := rsz all[i] (n * n)) hkn
      rw [← h6]
      congr 1
      rw [flagsT_at hi, ei]
    rw [ex, fillG_push hoi hkk] at h5
    exact ih (k + 1) R1 K5 tg2 (by omega) (by omega) lR h5 fun j hj => (st j hj).trans (o5 j (by omega) (by omega))
theorem complain_spec {B : Nat} {hv : Value} {heard : List (List (List Int))} (hV : ScnV E.s) (hn : E.s.N = n) (hn7 : n ≤ 7) (hqn : E.q.length = n) (hq3 : ∀ d, d < E.q.length → (E.q.getD d []).length ≤ 3) (hRl : Rws.length = n) (hok : ∀ i, i < n → RwOk E.s.P E.q (Rws.getD i [])) (hhl : heard.length = n) (hhr : ∀ i, i < n → (heard.getD i []).length = n) (h : VSt E R H tg rd views ts S Rws (List.replicate n [])) (h6 : ∀ b, ¬ Pt tg 6 b) (hh : Sl (qXZ (qXZ (eInt .u64))) R hv heard)
    (hvl : (views.length : Int) = E.s.N) (hB : Few views B) (hB2 : B ≤ 900000) (hr0 : 0 ≤ rd) (hr1 : rd ≤ 1000000) :
    qVZ Tryd.prog 105 [qTZ E.jp, hv] H (After R H tg 7 fun R' H' tg' => VSt E R' H' tg' (rd + 1) (castV rd (applyB E.s rd (flagsAll E.s.P n E.q Rws heard) E.s.devs.length) views.length views views.length) ts S Rws (flagsT n (applyB E.s rd (flagsAll E.s.P n E.q Rws heard) E.s.devs.length))) := by
  obtain ⟨hp, hn4, hn13, _⟩ := hV.par
  have hpp := hp.pos
  apply call105
  unfold m105
  show oNew [qTZ E.jp] 1 150 H _
  refine h.box fun b H1 N1 hN1 h1 hb => ?_
  have hcl := hh.cell
  rw [hcl.1]
  show oNew [hv] 1 44 H1 _
  refine h1.box fun a H2 N2 hN2 h2 ha => ?_
  have hl2 := h2.lab.le
  have lR2 : Le R (hun (hun R N1) N2) := (qNZ R N1).trans (qNZ _ N2)
  replace hb := hb.mono (qNZ (hun R N1) N2)
  replace hh := hh.mono lR2
  have st2 : ∀ j, Stays tg tg H H2 j := fun j => (Stays.news hN1).trans (Stays.news hN2)
  generalize hun (hun R N1) N2 = R2 at h2 ha hb hl2 lR2 hh
  have phn := (h2.ph.mono hl2).n
  rw [hn] at phn
  (repeat (first | refine qQZ (qDZ _) ?_ | refine qQZ (qEZ _) ?_ | refine qQZ (qFZ _ _) ?_ | refine qQZ (qGZ _ _) ?_ | refine qQZ (by (try with_reducible first | refine gV_F ?_ | refine gV_T ?_); first | exact (hb.mono hl2).ld rfl | exact phn | exact q1Z _ _ | exact q2Z _ _ _ | exact q3Z _ | exact q4Z _ | exact q5Z _ _ _ | exact q6Z _ _ _ | exact q7Z _ _ _ | exact q8Z _ _ _ | exact q9Z _ _ _ | exact q0Z _ _ _ | exact qHZ (by omega) (by omega) | exact qIZ (by omega) (by omega) | exact qAZ _ | exact qBZ _ _ _ | exact qCZ _ _ _) ?_ | refine qQZ (gV_F rfl) ?_ | refine qQZ (gV_T rfl) ?_))
  refine oMake_own (te := ty52) rfl (by show 24 * n ≤ _; omega) (by omega) fun fv H3 hg => ?_
  obtain ⟨tg3, h3, e3, o3⟩ := h2.part (i := 6) (by decide) hg.1 h6 (blk_new hg)
  have g3 : RwP R2 (Pt tg3 6) H3 fv ((flagsAll E.s.P n E.q Rws heard).take 0 ++ (List.replicate n ([] : List Int)).drop 0) := by
    rw [List.take_zero, List.drop_zero, List.nil_append, e3]
    rw [zerosL_one rfl] at hg
    refine ⟨List.replicate n (.slice none 0 0), by simp, by rw [List.length_replicate]; exact hg.2.1, fun b hb => hb, fun j u r hu hr => ?_⟩
    have hj : j < n := by simpa using (List.getElem?_eq_some_iff.1 hu).1
    rw [List.getElem?_replicate, if_pos hj] at hu hr
    cases hu
    cases hr
    exact Sl.nil _ _
  refine h3.boxS rfl g3.one rfl rfl fun c H4 N4 hN4 h4 hc => ?_
  have hl4 := h4.lab.le
  have lR4 := lR2.trans (qNZ R2 N4)
  replace hb := hb.mono (qNZ R2 N4)
  replace ha := ha.mono (qNZ R2 N4)
  replace hh := hh.mono (qNZ R2 N4)
  have g4 := g3.stay (qNZ _ N4) (Stays.news (tg := tg3) hN4)
  have st4 : ∀ j, 7 ≤ j → Stays tg tg3 H H4 j := fun j hj => ((st2 j).trans (o3 j (by omega) (by omega))).trans (Stays.news hN4)
  generalize hun R2 N4 = R4 at h4 ha hb hc hl4 lR4 g4 hh
  (repeat (first | refine qQZ (qDZ _) ?_ | refine qQZ (qEZ _) ?_ | refine qQZ (qFZ _ _) ?_ | refine qQZ (qGZ _ _) ?_ | refine qQZ (by (try with_reducible first | refine gV_F ?_ | refine gV_T ?_); first | exact (hb.mono hl4).ld rfl | exact q1Z _ _ | exact q2Z _ _ _ | exact q3Z _ | exact q4Z _ | exact q5Z _ _ _ | exact q6Z _ _ _ | exact q7Z _ _ _ | exact q8Z _ _ _ | exact q9Z _ _ _ | exact q0Z _ _ _ | exact qHZ (by omega) (by omega) | exact qIZ (by omega) (by omega) | exact qAZ _ | exact qBZ _ _ _ | exact qCZ _ _ _) ?_ | refine qQZ (gV_F rfl) ?_ | refine qQZ (gV_T rfl) ?_))
  have phn4 := (h4.ph.mono hl4).n
  rw [hn] at phn4
  refine p9Z (each_spec (n := n) (fid := 128) (caps := [qTZ b, qTZ a, qTZ c]) (I := fun i K => ∃ R5 tg5, Le R4 R5 ∧ VSt E R5 K tg5 rd views ts S Rws (List.replicate n []) ∧ RwP R5 (Pt tg5 6) K fv ((flagsAll E.s.P n E.q Rws heard).take i ++ (List.replicate n ([] : List Int)).drop i) ∧ ∀ j, 7 ≤ j → Stays tg tg5 H K j) rfl phn4 (by omega) ⟨R4, tg3, Le.refl _, h4, g4, st4⟩ fun i K hi hI => ?_) fun v K hK => ?_
  · obtain ⟨R5, tg5, l5, s5, g5, st5⟩ := hI
    refine (cpl1_spec hp hn hn7 hqn hq3 hRl hok hhl hhr s5 (hb.mono l5) (ha.mono l5) (hc.mono l5) (hh.mono l5) g5 hi).ret fun v K' hv => ?_
    obtain ⟨R6, tg6, l6, ⟨s6, g6⟩, st6⟩ := hv
    exact ⟨R6, tg6, l5.trans l6, s6, g6, fun j hj => (st5 j hj).trans (st6 j hj)⟩
  obtain ⟨R5, tg5, l5, s5, g5, st5⟩ := hK
  rw [List.take_of_length_le (by rw [flagsAll_len]; omega), List.drop_of_length_le (by simp), List.append_nil] at g5
  obtain ⟨G, tg6, s6, lG, kG, n6, o6⟩ := s5.freeze (i := 6) (by decide)
  have out6 : Sl (qXZ (eInt .u64)) G fv (flagsAll E.s.P n E.q Rws heard) := g5.sl lG kG
  have hlG := s6.lab.le
  have lR6 := (lR4.trans l5).trans lG
  have l46 := l5.trans lG
  have ph6 := s6.ph.mono hlG
  (repeat (first | refine qQZ (qDZ _) ?_ | refine qQZ (qEZ _) ?_ | refine qQZ (qFZ _ _) ?_ | refine qQZ (qGZ _ _) ?_ | refine qQZ (by (try with_reducible first | refine gV_F ?_ | refine gV_T ?_); first | exact ((hb.mono l46).mono hlG).ld rfl | exact ph6.jn | exact ((hc.mono l46).mono hlG).ld rfl | exact q1Z _ _ | exact q2Z _ _ _ | exact q3Z _ | exact q4Z _ | exact q5Z _ _ _ | exact q6Z _ _ _ | exact q7Z _ _ _ | exact q8Z _ _ _ | exact q9Z _ _ _ | exact q0Z _ _ _ | exact qHZ (by omega) (by omega) | exact qIZ (by omega) (by omega) | exact qAZ _ | exact qBZ _ _ _ | exact qCZ _ _ _) ?_ | refine qQZ (gV_F rfl) ?_ | refine qQZ (gV_T rfl) ?_))
  have hmsgs : Msgs E.s.P E.s.N (flagsAll E.s.P n E.q Rws heard) := by rw [hn]; exact flagsAll_msgs (by omega) hn7
  refine p9Z (cast_part s6.net hV out6 hmsgs hvl hB hB2 hr0 hr1) fun av K7 hv7 => ?_
  obtain ⟨R7, F7, m7, n7, sl7⟩ := hv7
  obtain ⟨tg7, s7, o7⟩ := s6.mvNet m7 n7
  refine s7.boxS rfl sl7.cell.2 rfl rfl fun x K8 N8 hN8 s8 hx => ?_
  have hl8 := s8.lab.le
  have l48 : Le R4 (hun R7 N8) := (l46.trans m7.r).trans (qNZ _ _)
  have lR8 : Le R (hun R7 N8) := lR4.trans l48
  replace sl7 := sl7.mono (qNZ R7 N8)
  have st8 : ∀ j, 7 ≤ j → Stays tg tg7 H K8 j := fun j hj => (((st5 j hj).trans (o6 j (by omega) (by omega))).trans (o7 j (by omega) (by omega))).trans (Stays.news hN8)
  generalize hun R7 N8 = R8 at s8 hx hl8 l48 lR8 sl7
  (repeat (first | refine qQZ (qDZ _) ?_ | refine qQZ (qEZ _) ?_ | refine qQZ (qFZ _ _) ?_ | refine qQZ (qGZ _ _) ?_ | refine qQZ (by (try with_reducible first | refine gV_F ?_ | refine gV_T ?_); first | exact ((hb.mono l48).mono hl8).ld rfl | exact q1Z _ _ | exact q2Z _ _ _ | exact q3Z _ | exact q4Z _ | exact q5Z _ _ _ | exact q6Z _ _ _ | exact q7Z _ _ _ | exact q8Z _ _ _ | exact q9Z _ _ _ | exact q0Z _ _ _ | exact qHZ (by omega) (by omega) | exact qIZ (by omega) (by omega) | exact qAZ _ | exact qBZ _ _ _ | exact qCZ _ _ _) ?_ | refine qQZ (gV_F rfl) ?_ | refine qQZ (gV_T rfl) ?_))
  have phn8 := (s8.ph.mono hl8).n
  rw [hn] at phn8
  have hall : (applyB E.s rd (flagsAll E.s.P n E.q Rws heard) E.s.devs.length).length = n := by
    have := (applyB_msgs (rd := rd) (by omega) hmsgs E.s.devs.length (Nat.le_refl _)).len
    omega
  generalize applyB E.s rd (flagsAll E.s.P n E.q Rws heard) E.s.devs.length = all at hall s8 sl7
  generalize castV rd all views.length views views.length = views' at s8
  refine p9Z (each_spec (n := n) (fid := 130) (caps := [qTZ x, qTZ b]) (I := fun i K => ∃ R9 tg9, Le R8 R9 ∧ VSt E R9 K tg9 (rd + 1) views' ts S Rws (fillG (flagsT n all) i 0) ∧ ∀ j, 6 ≤ j → Stays tg7 tg9 K8 K j) rfl phn8 (by omega) ⟨R8, tg7, Le.refl _, by rw [fillG_zero, flagsT_len]; exact s8, fun j _ => Stays.refl _ _ _⟩ fun i K hi hI => ?_) fun v K hK => ?_
  · obtain ⟨R9, tg9, l9, s9, st9⟩ := hI
    refine (cpl2_spec hn hn7 (by omega) hall s9 (hb.mono (l48.trans l9)) (hx.mono l9) (sl7.mono l9) hi).ret fun v K' hv => ?_
    obtain ⟨R10, tg10, l10, s10, st10⟩ := hv
    exact ⟨R10, tg10, l9.trans l10, s10, fun j hj => (st9 j hj).trans (st10 j hj)⟩
  obtain ⟨R9, tg9, l9, s9, st9⟩ := hK
  have eend2 : fillG (flagsT n all) n 0 = flagsT n all := by
    have := fillG_end (A := flagsT n all)
    rw [flagsT_len] at this
    exact this
  rw [eend2] at s9
  exact ⟨R9, tg9, lR8.trans l9, s9, fun j hj => (st8 j hj).trans (st9 j (by omega))⟩
end
end

section
open Go

def Scn.n (s : Scn) : Nat := s.N.toNat
def Scn.w (s : Scn) : Nat := (s.T + 1).toNat
section
variable (s : Scn) (q : List (List (List Int)))
def dOut0 : List (List (List Int)) := outA s.P s.n (matsA s q)
def dIn0 : List (List (List Int)) := recv (applyM s 0 (dOut0 s q) s.devs.length) s.n
def dRows : List (List (List (List Int))) := rowsA s.w q (dIn0 s q)
def dOut1 : List (List (List Int)) := outB s.P s.n (dRows s q)
def dIn1 : List (List (List Int)) := recv (applyM s 1 (dOut1 s q) s.devs.length) s.n
def dSaid : List (List Int) := flagsAll s.P s.n q (dRows s q) (dIn1 s q)
def dAll : List (List Int) := applyB s 2 (dSaid s q) s.devs.length
def dFlags : List (List (List Int)) := flagsT s.n (dAll s q)
def dView0 : List (List Ev) := sendV 0 (applyM s 0 (dOut0 s q) s.devs.length) s.n (List.replicate s.n []) s.n
def dView1 : List (List Ev) := sendV 1 (applyM s 1 (dOut1 s q) s.devs.length) s.n (dView0 s q) s.n
def dViews : List (List Ev) := castV 2 (dAll s q) s.n (dView1 s q) s.n
end
theorem rng_drop {p : Int} {l : List Int} (h : rng p l) (k : Nat) : rng p (l.drop k) := fun x hx => h x (List.mem_of_mem_drop hx)
theorem rng_take {p : Int} {l : List Int} (h : rng p l) (k : Nat) : rng p (l.take k) := fun x hx => h x (List.mem_of_mem_take hx)
section
variable {s : Scn} {q : List (List (List Int))}
theorem DealOk.n (h : DealOk s q) : s.N = s.n ∧ q.length = s.n ∧ s.n ≤ 7 ∧ 4 ≤ s.n := by
  obtain ⟨_, h4, _⟩ := h.v.par
  have h1 := h.ql
  have h2 := h.n7
  unfold Scn.n
  omega
theorem DealOk.w (h : DealOk s q) : s.T + 1 = s.w ∧ 0 < s.w ∧ s.w ≤ 3 := by
  unfold Scn.w
  rcases h.t with e | e <;> rw [e] <;> decide
theorem DealOk.sok (h : DealOk s q) : SOk s.P s.n s.w (matsA s q) := by
  obtain ⟨hn, hqn, hn7, hn4⟩ := h.n
  obtain ⟨hw, _, _⟩ := h.w
  refine ⟨by rw [matsA_len]; exact hqn, fun i hi => ?_, fun i hi m hm => ?_⟩
  · rw [matsA_at (by omega), mats_len]
    exact h.q3 i (by omega)
  · rw [matsA_at (by omega)] at hm
    obtain ⟨k, hk, rfl⟩ := List.mem_iff_getElem.1 hm
    rw [mats_len] at hk
    rw [mats_at hk]
    have h1 := h.newOk (d := i) (k := k) (by omega) hk
    have e : (q.getD i []).getD k [] = (q.getD i [])[k] := p6Z hk
    obtain ⟨h2, h3⟩ := h.qw i (by omega) _ (List.getElem_mem hk)
    rw [e] at h1 ⊢
    obtain ⟨a, b⟩ := newM_mem h1 h3 (rng_take (rng_drop (h.tr i) _) _)
    exact ⟨a, by omega⟩
theorem DealOk.pos (h : DealOk s q) : 31 ≤ s.P := by
  obtain ⟨hp, _⟩ := h.v.par
  exact hp.pos.1
theorem DealOk.devs (h : DealOk s q) : ∀ d ∈ s.devs, DevOk s.N d := fun d hd => (h.v.devs d hd).2
theorem DealOk.msgs0 (h : DealOk s q) : MsgsM s.P s.N (applyM s 0 (dOut0 s q) s.devs.length) := by
  have hp := h.pos
  refine applyM_msgs (by omega) h.devs ?_ _ (Nat.le_refl _)
  have := outA_msgs (p := s.P) (by omega) (by have := h.w; omega) h.sok
  rw [← h.n.1] at this
  exact this
theorem recv_at {said : List (List (List Int))} {n i : Nat} (hi : i < n) : (recv said n).getD i [] = inTo said n i := by
  rw [List.getD_eq_getElem?_getD, recv_get _ hi]
  rfl
theorem inTo_at {said : List (List (List Int))} {n i j : Nat} (hi : i < n) : (inTo said n j).getD i [] = (said.getD i []).getD j [] := by
  rw [p6Z (by rw [inTo_len]; exact hi)]
  simp [inTo]
theorem recv_rng {p : Int} {N : Int} {said : List (List (List Int))} {n i d : Nat} (h : MsgsM p N said) (hi : i < n) : rng p (((recv said n).getD i []).getD d []) := by
  rw [recv_at hi]
  by_cases hd : d < n
  · rw [inTo_at hd]
    by_cases hs : d < said.length
    · exact ((h.get hs).get i).1
    · rw [List.getD_eq_getElem?_getD, List.getD_eq_getElem?_getD, List.getElem?_eq_none (l := said) (by omega)]
      intro x hx
      simp at hx
  · rw [List.getD_eq_getElem?_getD, List.getElem?_eq_none (by rw [inTo_len]; omega)]
    intro x hx
    cases hx
theorem rowsA_ok {p : Int} {w : Nat} {heard : List (List (List Int))} {i : Nat} (hp : 0 < p) (hi : i < q.length) (hr : ∀ d, rng p ((heard.getD i []).getD d [])) : RwOk p q ((rowsA w q heard).getD i []) := by
  rw [rowsA_at hi]
  have hat : ∀ d, (hd : d < q.length) → (rowsIn w q (heard.getD i [])).getD d [] = chunks w (q.getD d []).length (rsz ((heard.getD i []).getD d []) ((q.getD d []).length * w)) := fun d hd => by
    rw [p6Z (by rw [rowsIn_len]; exact hd)]
    exact rowsIn_at hd
  refine ⟨rowsIn_len, fun d hd => by rw [hat d hd, chunks_len], fun d hd r hr2 => ?_⟩
  rw [hat d hd] at hr2
  simp only [chunks, List.mem_map, List.mem_range] at hr2
  obtain ⟨k, _, rfl⟩ := hr2
  exact rng_take (rng_drop (rsz_rng (hr d) hp _) _) _
theorem DealOk.rok (h : DealOk s q) : ∀ i, i < s.n → RwOk s.P q ((dRows s q).getD i []) := fun i hi => by
  have hp := h.pos
  obtain ⟨hn, hqn, hn7, hn4⟩ := h.n
  exact rowsA_ok (by omega) (by omega) fun d => recv_rng h.msgs0 hi
theorem dView0_len : (dView0 s q).length = s.n := by rw [dView0, sendV_len]; simp
theorem dView1_len : (dView1 s q).length = s.n := by rw [dView1, sendV_len, dView0_len]
theorem dView0_few (hn : s.n ≤ 7) : Few (dView0 s q) 49 := by
  have h0 : Few (List.replicate s.n ([] : List Ev)) 0 := fun k => by
    rw [List.getD_eq_getElem?_getD, List.getElem?_replicate]
    split <;> simp
  refine (Few.send h0 0 _ s.n s.n).mono ?_
  have : s.n * s.n ≤ 7 * 7 := Nat.mul_le_mul hn hn
  omega
theorem dView1_few (hn : s.n ≤ 7) : Few (dView1 s q) 98 := by
  refine ((dView0_few hn).send 1 _ s.n s.n).mono ?_
  have : s.n * s.n ≤ 7 * 7 := Nat.mul_le_mul hn hn
  omega
end
structure Dealt (s : Scn) (q : List (List (List Int))) (R H : Heap) (tg : Nat → Nat) (jn : Nat) (cv dv tv tp : Value) (qs : List Nat) (Sv Rv Fv : Value) : Prop where
  lab : Lab R H tg
  net : NetB R (Pt tg 1) 98 H jn s cv dv tv tp 3 (dViews s q)
  tap : TapB R (Pt tg 2) 136 H tp qs (tapG s q q.length 0)
  mats : Sl (qXZ eMat) R Sv (matsA s q)
  rows : Sl (qXZ eMat) R Rv (dRows s q)
  flags : Sl (qXZ (qXZ (eInt .u64))) R Fv (dFlags s q)
section
variable {s : Scn} {q : List (List (List Int))} {R H : Heap} {tg : Nat → Nat} {jn : Nat} {cv dv tv tp qv : Value} {qs : List Nat}
theorem deal_spec (hD : DealOk s q) (lab : Lab R H tg) (net : NetB R (Pt tg 1) 98 H jn s cv dv tv tp 0 (List.replicate s.n [])) (tap : TapB R (Pt tg 2) 136 H tp qs (s.tapes.map fun w => (w, 0))) (few : ∀ b, tg b ≤ 2) (hq : Sl (qXZ (qXZ (eInt .u64))) R qv q) :
    qVZ Tryd.prog 72 [qTZ jn, qv] H (Ret fun v H' => ∃ R' tg' Sv Rv Fv, Le R R' ∧ v = .agg #[Sv, Rv, Fv] ∧ Dealt s q R' H' tg' jn cv dv tv tp qs Sv Rv Fv) := by
  obtain ⟨hn, hqn, hn7, hn4⟩ := hD.n
  obtain ⟨hw, hw0, hw3⟩ := hD.w
  have hV := hD.v
  apply call72
  unfold m72
  show oNew [.slice none 0 0, .slice none 0 0, .slice none 0 0] 3 71 H _
  intro i1 hi1
  have l1 : Le H (hins H i1 (.cells [.slice none 0 0, .slice none 0 0, .slice none 0 0] 3 71 true)) := Le.ins _ hi1
  have k1 : hins H i1 (.cells [.slice none 0 0, .slice none 0 0, .slice none 0 0] 3 71 true) i1 = some (.cells [.slice none 0 0, .slice none 0 0, .slice none 0 0] 3 71 true) := hins_self _ _ _
  generalize hins H i1 (.cells [.slice none 0 0, .slice none 0 0, .slice none 0 0] 3 71 true) = H1 at l1 k1
  obtain ⟨tg1, lab1, e1, o1⟩ := lab.part (i := 8) (F := fun b => b = i1) (by decide) l1 (fun b hb => by have h1 := few b; have h2 : tg b = 8 := hb; omega) (fun b hb => by subst hb; exact ⟨hi1, by rw [k1]; simp⟩)
  have net1 := net.stay (F := fun _ => True) (by decide) lab1 (Le.refl _) (o1 1 (by decide) (by decide))
  have tap1 := tap.stay (Le.refl _) (o1 2 (by decide) (by decide))
  have few1 : ∀ j, 3 ≤ j → j ≠ 8 → ∀ b, ¬ Pt tg1 j b := fun j h3 h8 => (o1 j (by omega) h8).none fun b hb => by have h1 := few b; have h2 : tg b = j := hb; omega
  obtain ⟨F0, hF0, na⟩ := net1
  refine p9Z (scenario_spec na) fun v H2 hv => ?_
  obtain ⟨rfl, l2⟩ := hv
  have lab2 := lab1.mono l2
  have st2 : ∀ j, Stays tg1 tg1 H1 H2 j := fun j => ⟨rfl, fun b c _ hc => l2 b c hc⟩
  have net2 : NetB R (Pt tg1 1) 98 H2 jn s cv dv tv tp 0 (List.replicate s.n []) := ⟨F0, hF0, na.mono l2⟩
  have tap2 := tap1.stay (Le.refl _) (st2 2)
  have k2 := l2 _ _ k1
  refine qQZ (v := parVal s) rfl ?_
  show oNew [.int .u64 0, .int .i64 0, .int .i64 0] 3 24 H2 _
  intro i6 hi6
  have st6 : p2Z ty24 (qTZ i6) (parVal s) (hins H2 i6 (.cells [.int .u64 0, .int .i64 0, .int .i64 0] 3 24 true)) = some (hins (hins H2 i6 (.cells [.int .u64 0, .int .i64 0, .int .i64 0] 3 24 true)) i6 (.cells [.int .u64 s.P, .int .i64 s.N, .int .i64 s.T] 3 24 true)) := by
    simp only [p2Z, qTZ, hins_self]
    rfl
  rw [hins_hins] at st6
  refine p8Z st6 ?_
  have hN6 := New.one (c := .cells [.int .u64 s.P, .int .i64 s.N, .int .i64 s.T] 3 24 true) hi6
  have pa : PAt (hins H2 i6 (.cells [.int .u64 s.P, .int .i64 s.N, .int .i64 s.T] 3 24 true)) i6 s := ⟨hins_self _ _ _⟩
  have k6 := hN6.1 _ _ k2
  have lab6 := lab2.news hN6
  have net6 := net2.stay (F := fun _ => True) (by decide) lab6 (qNZ _ _) (Stays.news hN6)
  have tap6 := tap2.stay (qNZ R (hone i6 (.cells [.int .u64 s.P, .int .i64 s.N, .int .i64 s.T] 3 24 true))) (Stays.news (tg := tg1) hN6)
  have hq6 := hq.mono (qNZ R (hone i6 (.cells [.int .u64 s.P, .int .i64 s.N, .int .i64 s.T] 3 24 true)))
  have lR6 : Le R (hun R (hone i6 (.cells [.int .u64 s.P, .int .i64 s.N, .int .i64 s.T] 3 24 true))) := qNZ _ _
  generalize hins H2 i6 (.cells [.int .u64 s.P, .int .i64 s.N, .int .i64 s.T] 3 24 true) = H6 at pa k6 lab6 net6 tap6
  generalize hun R (hone i6 (.cells [.int .u64 s.P, .int .i64 s.N, .int .i64 s.T] 3 24 true)) = R6 at lab6 net6 tap6 hq6 lR6
  have pan := pa.n
  rw [hn] at pan
  (repeat (first | refine qQZ (qDZ _) ?_ | refine qQZ (qEZ _) ?_ | refine qQZ (qFZ _ _) ?_ | refine qQZ (qGZ _ _) ?_ | refine qQZ (by (try with_reducible first | refine gV_F ?_ | refine gV_T ?_); first | exact pa.all | exact pan | exact q1Z _ _ | exact q2Z _ _ _ | exact q3Z _ | exact q4Z _ | exact q5Z _ _ _ | exact q6Z _ _ _ | exact q7Z _ _ _ | exact q8Z _ _ _ | exact q9Z _ _ _ | exact q0Z _ _ _ | exact qHZ (by omega) (by omega) | exact qIZ (by omega) (by omega) | exact qAZ _ | exact qBZ _ _ _ | exact qCZ _ _ _) ?_ | refine qQZ (gV_F rfl) ?_ | refine qQZ (gV_T rfl) ?_))
  refine oMake_own (te := ty44) rfl (by show 24 * s.n ≤ _; omega) (by omega) fun Sv H7 g7 => ?_
  obtain ⟨tg7, lab7, e7, o7⟩ := lab6.part (i := 3) (by decide) g7.1 (few1 3 (by decide) (by decide)) (blk_new g7)
  have gs7 : Grid eMat R6 (Pt tg7 3) 27 44 H7 Sv (List.replicate s.n []) := by rw [e7]; exact grid_of_make rfl g7
  refine oMake_own (te := ty44) rfl (by show 24 * s.n ≤ _; omega) (by omega) fun Rv H8 g8 => ?_
  obtain ⟨tg8, lab8, e8, o8⟩ := lab7.part (i := 4) (by decide) g8.1 ((o7 4 (by decide) (by decide)).none (few1 4 (by decide) (by decide))) (blk_new g8)
  have gr8 : Grid eMat R6 (Pt tg8 4) 27 44 H8 Rv (List.replicate s.n []) := by rw [e8]; exact grid_of_make rfl g8
  refine oMake_own (te := ty27) rfl (by show 24 * s.n ≤ _; omega) (by omega) fun Fv H9 g9 => ?_
  obtain ⟨tg9, lab9, e9, o9⟩ := lab8.part (i := 5) (by decide) g9.1 ((o8 5 (by decide) (by decide)).none ((o7 5 (by decide) (by decide)).none (few1 5 (by decide) (by decide)))) (blk_new g9)
  have gf9 : Grid (qXZ (eInt .u64)) R6 (Pt tg9 5) 52 27 H9 Fv (List.replicate s.n []) := by rw [e9]; exact grid_of_make rfl g9
  have gs9 := (gs7.stay (Le.refl _) (o8 3 (by decide) (by decide))).stay (Le.refl _) (o9 3 (by decide) (by decide))
  have gr9 := gr8.stay (Le.refl _) (o9 4 (by decide) (by decide))
  have s79 : ∀ j, j = 1 ∨ j = 2 ∨ 6 ≤ j → Stays tg1 tg9 H6 H9 j := fun j hj => ((o7 j (by omega) (by omega)).trans (o8 j (by omega) (by omega))).trans (o9 j (by omega) (by omega))
  have net9 := net6.stay (F := fun _ => True) (by decide) lab9 (Le.refl _) (s79 1 (by omega))
  have tap9 := tap6.stay (Le.refl _) (s79 2 (by omega))
  obtain ⟨sb, sn, sc, rfl⟩ : ∃ b n c, Sv = .slice b n c := by obtain ⟨b, c, e, _⟩ := g7.2.1.read; exact ⟨b, _, c, e⟩
  obtain ⟨rb, rn, rc, rfl⟩ : ∃ b n c, Rv = .slice b n c := by obtain ⟨b, c, e, _⟩ := g8.2.1.read; exact ⟨b, _, c, e⟩
  obtain ⟨fb, fn, fc, rfl⟩ : ∃ b n c, Fv = .slice b n c := by obtain ⟨b, c, e, _⟩ := g9.2.1.read; exact ⟨b, _, c, e⟩
  obtain ⟨qb, qc, _, rfl, _⟩ := id hq
  refine qQZ (v := .agg #[.slice sb sn sc, .slice rb rn rc, .slice fb fn fc]) rfl ?_
  refine qQZ (v := .agg #[qTZ jn, .int .u64 s.P, .int .i64 s.N, .int .i64 s.T, .slice qb q.length qc, .slice sb sn sc, .slice rb rn rc, .slice fb fn fc]) rfl ?_
  show oNew [qTZ jn, .int .u64 s.P, .int .i64 s.N, .int .i64 s.T, .slice qb q.length qc, .slice sb sn sc, .slice rb rn rc, .slice fb fn fc] 8 152 H9 _
  intro jp hjp
  generalize hcs : [qTZ jn, .int .u64 s.P, .int .i64 s.N, .int .i64 s.T, .slice qb q.length qc, .slice sb sn sc, .slice rb rn rc, .slice fb fn fc] = cs at *
  have hN10 := New.one (c := .cells cs 8 152 true) hjp
  have k10 : hun R6 (hone jp (.cells cs 8 152 true)) jp = some (.cells cs 8 152 true) := by simp [hun, none_le lab9.le hjp, hone]
  generalize hins H9 jp (.cells cs 8 152 true) = H10 at hN10
  have lab10 := lab9.news hN10
  generalize hSv : Value.slice sb sn sc = Sv at *
  generalize hRv : Value.slice rb rn rc = Rv at *
  generalize hFv : Value.slice fb fn fc = Fv at *
  have s0 : VSt ⟨jn, jp, s, cv, dv, tv, tp, .slice qb q.length qc, Sv, Rv, Fv, q, qs⟩ (hun R6 (hone jp (.cells cs 8 152 true))) H10 tg9 0 (List.replicate s.n []) (tapG s q 0 0) (fillG (matsA s q) 0 0) (List.replicate s.n []) (List.replicate s.n []) := by
    refine ⟨lab10, net9.stay (F := fun _ => True) (by decide) lab10 (qNZ _ _) (Stays.news hN10), ?_, ⟨by rw [k10, ← hcs]; rfl⟩, hq6.mono (qNZ _ _), ?_, gr9.stay (qNZ _ _) (Stays.news hN10), gf9.stay (qNZ _ _) (Stays.news hN10)⟩
    · rw [tapG_zero]
      exact tap9.stay (qNZ _ _) (Stays.news hN10)
    · rw [fillG_zero, matsA_len, hqn]
      exact gs9.stay (qNZ _ _) (Stays.news hN10)
  have lR10 : Le R (hun R6 (hone jp (.cells cs 8 152 true))) := lR6.trans (qNZ _ _)
  have n6 : ∀ b, ¬ Pt tg9 6 b := (s79 6 (by omega)).none (few1 6 (by decide) (by decide))
  have p8 : Pt tg9 8 i1 := by rw [(s79 8 (by omega)).1, e1]
  have k8 : H10 i1 = some (.cells [.slice none 0 0, .slice none 0 0, .slice none 0 0] 3 71 true) := hN10.1 _ _ ((s79 8 (by omega)).2 _ _ (show Pt tg1 8 i1 by rw [e1]) k6)
  generalize hun R6 (hone jp (.cells cs 8 152 true)) = R10 at s0 lR10
  have t1 := choose_spec (E := ⟨jn, jp, s, cv, dv, tv, tp, .slice qb q.length qc, Sv, Rv, Fv, q, qs⟩) hD s0
  refine p9Z t1 fun v K1 hv => ?_
  obtain ⟨R11, tg11, l11, s11, st11⟩ := hv
  have eS : fillG (matsA s q) q.length 0 = matsA s q := by
    have := fillG_end (A := matsA s q)
    rw [matsA_len] at this
    exact this
  replace s11 : VSt ⟨jn, jp, s, cv, dv, tv, tp, .slice qb q.length qc, Sv, Rv, Fv, q, qs⟩ R11 K1 tg11 0 (List.replicate s.n []) (tapG s q q.length 0) (fillG (matsA s q) q.length 0) (List.replicate s.n []) (List.replicate s.n []) := s11
  rw [eS] at s11
  have few0 : Few (List.replicate s.n ([] : List Ev)) 0 := fun k => by
    rw [List.getD_eq_getElem?_getD, List.getElem?_replicate]
    split <;> simp
  have t2 := distribute_spec (E := ⟨jn, jp, s, cv, dv, tv, tp, .slice qb q.length qc, Sv, Rv, Fv, q, qs⟩) (B := 0) hV hn hn7 hqn hD.q3 hw hw0 (by omega) hD.sok s11 ((st11 6 (by decide)).none n6) (by simp; exact hn.symm) few0 (by decide) (by decide) (by decide)
  refine p9Z t2 fun v K2 hv => ?_
  obtain ⟨R12, tg12, l12, ⟨s12, n12⟩, st12⟩ := hv
  rw [List.length_replicate] at s12
  replace s12 : VSt ⟨jn, jp, s, cv, dv, tv, tp, .slice qb q.length qc, Sv, Rv, Fv, q, qs⟩ R12 K2 tg12 1 (dView0 s q) (tapG s q q.length 0) (matsA s q) (dRows s q) (List.replicate s.n []) := s12
  have hRl : (dRows s q).length = s.n := by rw [dRows, rowsA_len, hqn]
  have t3 := compare_spec (E := ⟨jn, jp, s, cv, dv, tv, tp, .slice qb q.length qc, Sv, Rv, Fv, q, qs⟩) (B := 49) hV hn hn7 hqn hD.q3 hRl hD.rok s12 n12 (by rw [dView0_len]; exact hn.symm) (dView0_few hn7) (by decide) (by decide) (by decide)
  refine p9Z t3 fun hv K3 hv3 => ?_
  obtain ⟨R13, tg13, l13, s13, sl13, n13, st13⟩ := hv3
  rw [dView0_len] at s13 sl13
  replace s13 : VSt ⟨jn, jp, s, cv, dv, tv, tp, .slice qb q.length qc, Sv, Rv, Fv, q, qs⟩ R13 K3 tg13 2 (dView1 s q) (tapG s q q.length 0) (matsA s q) (dRows s q) (List.replicate s.n []) := s13
  replace sl13 : Sl (qXZ (qXZ (eInt .u64))) R13 hv (dIn1 s q) := sl13
  have t4 := complain_spec (E := ⟨jn, jp, s, cv, dv, tv, tp, .slice qb q.length qc, Sv, Rv, Fv, q, qs⟩) (B := 98) hV hn hn7 hqn hD.q3 hRl hD.rok (by rw [dIn1, recv_len]) (fun i hi => by rw [dIn1, recv_at hi, inTo_len]) s13 n13 sl13 (by rw [dView1_len]; exact hn.symm) (dView1_few hn7) (by decide) (by decide) (by decide)
  refine p9Z t4 fun v K4 hv4 => ?_
  obtain ⟨R14, tg14, l14, s14, st14⟩ := hv4
  rw [dView1_len] at s14
  replace s14 : VSt ⟨jn, jp, s, cv, dv, tv, tp, .slice qb q.length qc, Sv, Rv, Fv, q, qs⟩ R14 K4 tg14 3 (dViews s q) (tapG s q q.length 0) (matsA s q) (dRows s q) (dFlags s q) := s14
  have st8 : Stays tg9 tg14 H10 K4 8 := (((st11 8 (by decide)).trans (st12 8 (by decide))).trans (st13 8 (by decide))).trans (st14 8 (by decide))
  have k14 := st8.2 i1 _ p8 k8
  have p14 : Pt tg14 8 i1 := by rw [st8.1]; exact p8
  have hl14 := s14.lab.le
  have ldS : qWZ ty71 (.pointer (some ⟨jp, 5, none⟩)) K4 = some (.agg #[Sv, Rv, Fv]) := by
    simp only [qWZ, (s14.ph.mono hl14).blk]
    rfl
  (repeat (first | refine qQZ (qDZ _) ?_ | refine qQZ (qEZ _) ?_ | refine qQZ (qFZ _ _) ?_ | refine qQZ (qGZ _ _) ?_ | refine qQZ (by (try with_reducible first | refine gV_F ?_ | refine gV_T ?_); first | exact ldS | exact q1Z _ _ | exact q2Z _ _ _ | exact q3Z _ | exact q4Z _ | exact q5Z _ _ _ | exact q6Z _ _ _ | exact q7Z _ _ _ | exact q8Z _ _ _ | exact q9Z _ _ _ | exact q0Z _ _ _ | exact qHZ (by omega) (by omega) | exact qIZ (by omega) (by omega) | exact qAZ _ | exact qBZ _ _ _ | exact qCZ _ _ _) ?_ | refine qQZ (gV_F rfl) ?_ | refine qQZ (gV_T rfl) ?_))
  have ones : Sv.oneCell' = true ∧ Rv.oneCell' = true ∧ Fv.oneCell' = true := ⟨s14.gS.one, s14.gR.one, s14.gF.one⟩
  have stS : p2Z ty71 (qTZ i1) (.agg #[Sv, Rv, Fv]) K4 = some (hins K4 i1 (.cells [Sv, Rv, Fv] 3 71 true)) := by
    subst hSv hRv hFv
    simp only [p2Z, qTZ, k14]
    rfl
  refine p8Z stS ?_
  have ldR : qWZ ty71 (qTZ i1) (hins K4 i1 (.cells [Sv, Rv, Fv] 3 71 true)) = some (.agg #[Sv, Rv, Fv]) := by
    simp only [qWZ, qTZ, hins_self]
    rfl
  rw [ldR]
  have m8 : Mv R14 K4 (Pt tg14 8) R14 (hins K4 i1 (.cells [Sv, Rv, Fv] 3 71 true)) (Pt tg14 8) := ⟨Le.refl _, hl14.put (s14.fr (by decide) i1 p14), fun b hb => .inl hb, fun b c hb hF => by
      rw [qOZ _ _ (fun e => by subst e; exact hF p14)]
      exact hb, Wide.refl _ _, fun b hb => by
      by_cases e : b = i1
      · subst e; rw [hins_self]; simp
      · rw [qOZ _ _ e]; exact s14.kn (by decide) b hb, s14.fr (by decide)⟩
  obtain ⟨tg15, s15, _, o15⟩ := s14.mvOther (i := 8) (by decide) m8
  generalize hins K4 i1 (.cells [Sv, Rv, Fv] 3 71 true) = K5 at s15 m8 o15
  -- all is given away
  obtain ⟨G3, tg16, lab16, lG3, kG3, _, _, o16⟩ := s15.lab.freeze (i := 3) (by decide)
  obtain ⟨G4, tg17, lab17, lG4, kG4, _, _, o17⟩ := lab16.freeze (i := 4) (by decide)
  obtain ⟨G5, tg18, lab18, lG5, kG5, _, _, o18⟩ := lab17.freeze (i := 5) (by decide)
  have st18 : ∀ j, j = 1 ∨ j = 2 → Stays tg15 tg18 K5 K5 j := fun j hj => ((o16 j (by omega) (by omega)).trans (o17 j (by omega) (by omega))).trans (o18 j (by omega) (by omega))
  have l18 := (lG3.trans lG4).trans lG5
  refine ⟨G5, tg18, Sv, Rv, Fv, ((((lR10.trans l11).trans l12).trans l13).trans l14).trans l18, rfl, lab18, s15.net.stay (F := fun _ => True) (by decide) lab18 l18 (st18 1 (.inl rfl)), s15.tap.stay l18 (st18 2 (.inr rfl)), ?_, ?_, ?_⟩
  · exact (s15.gS.sl rfl lG3 kG3).mono (lG4.trans lG5)
  · refine ((s15.gR.stay lG3 (o16 4 (by decide) (by decide))).sl rfl lG4 kG4).mono lG5
  · exact ((s15.gF.stay lG3 (o16 5 (by decide) (by decide))).stay lG4 (o17 5 (by decide) (by decide))).sl rfl lG5 kG5
end
end

section
open Go

theorem rangeMap_at {α : Type} {n i : Nat} {f : Nat → α} {d : α} (h : i < n) : ((List.range n).map f).getD i d = f i := by
  rw [p6Z (by simpa using h)]
  simp
def val (x : Int) : List Int → Int
  | [] => 0
  | c :: r => val x r * x + c
theorem evalP_val {p x : Int} : ∀ f, evalP p x f = val x f % p
  | [] => by simp [evalP, val]
  | c :: r => by
    rw [evalP, val, evalP_val r]
    simp [Int.add_emod, Int.mul_emod]
theorem val_snoc {x : Int} : ∀ (l : List Int) (c : Int), val x (l ++ [c]) = val x l + c * x ^ l.length
  | [], c => by simp [val]
  | a :: l, c => by
    rw [List.cons_append, val, val_snoc l c, val, List.length_cons, Int.pow_succ]
    grind
theorem powP_pow {p x : Int} (hp : 1 < p) : ∀ i, powP p x i = x ^ i % p
  | 0 => by rw [powP, Int.pow_zero, Int.emod_eq_of_lt (by omega) hp]
  | i + 1 => by rw [powP, powP_pow hp i, Int.pow_succ]; simp [Int.mul_emod]
def colM (m : List (List Int)) (j : Nat) : List Int := m.map fun r => r.getD j 0
theorem addRow_getD {p w : Int} {out row : List Int} {j : Nat} (h1 : j < out.length) (h2 : j < row.length) : (addRow p w out row).getD j 0 = (out.getD j 0 + row.getD j 0 * w % p) % p := by
  rw [p6Z (by simp [addRow]; omega), p6Z h1, p6Z h2]
  simp [addRow]
theorem rowAcc_val {p x : Int} {m : List (List Int)} (hp : 1 < p) (h : SqM p m) {j : Nat} (hj : j < m.length) : ∀ i, i ≤ m.length → (rowAcc p x m i).getD j 0 = val x ((colM m j).take i) % p
  | 0, _ => by
    rw [rowAcc, List.take_zero, val, p6Z (by simpa using hj)]
    simp
  | i + 1, hi => by
    have h1 := rowAcc_val (x := x) hp h hj i (by omega)
    have hl := rowAcc_len (x := x) h i (by omega)
    have hr := (h.row (i := i) (by omega)).1
    have hc : i < (colM m j).length := by simp [colM]; omega
    rw [rowAcc, addRow_getD (by omega) (by omega), h1, powP_pow hp, List.take_succ_eq_append_getElem hc, val_snoc]
    have e1 : ((colM m j).take i).length = i := by rw [List.length_take]; omega
    have e2 : (colM m j)[i] = (m.getD i []).getD j 0 := by
      rw [p6Z (l := m) (by omega)]
      simp [colM]
    rw [e1, e2]
    simp [Int.add_emod, Int.mul_emod]
theorem rowL_at {p x : Int} {m : List (List Int)} (hp : 1 < p) (h : SqM p m) {j : Nat} (hj : j < m.length) : (rowL p x m).getD j 0 = val x (colM m j) % p := by
  have := rowAcc_val (x := x) hp h hj m.length (Nat.le_refl _)
  rw [List.take_of_length_le (by simp [colM])] at this
  exact this
theorem rowL_ref {p x : Int} {m : List (List Int)} (hp : 1 < p) (h : SqM p m) : rowL p x m = (List.range m.length).map fun (j : Nat) => evalP p x (colM m j) := by
  apply List.ext_getElem
  · rw [rowL_len h]; simp
  · intro j h1 h2
    have hj : j < m.length := by rw [rowL_len h] at h1; exact h1
    have := rowL_at (x := x) hp h hj
    rw [p6Z h1] at this
    rw [this, List.getElem_map, List.getElem_range, evalP_val]
theorem val2 {x a b : Int} : val x [a, b] = a + b * x := by simp only [val]; grind
theorem val3 {x a b c : Int} : val x [a, b, c] = a + b * x + c * x * x := by simp only [val]; grind
theorem list2 {l : List Int} (h : l.length = 2) : l = [l.getD 0 0, l.getD 1 0] := by
  obtain ⟨a, b, rfl⟩ := len2 h
  rfl
theorem list3 {l : List Int} (h : l.length = 3) : l = [l.getD 0 0, l.getD 1 0, l.getD 2 0] := by
  obtain ⟨a, b, c, rfl⟩ := len3 h
  rfl
theorem evalP2 {p x a b : Int} : evalP p x [a % p, b % p] = (a + b * x) % p := by
  rw [evalP_val, val2]
  simp [Int.add_emod, Int.mul_emod]
theorem evalP3 {p x a b c : Int} : evalP p x [a % p, b % p, c % p] = (a + b * x + c * x * x) % p := by
  rw [evalP_val, val3]
  simp [Int.add_emod, Int.mul_emod]
theorem sym_rows {p : Int} {first rest : List Int} (hp : 1 < p) (h : newOk first rest) (hf : rng p first) (hr : rng p rest) (x y : Int) : evalP p y (rowL p x (newM first rest)) = evalP p x (rowL p y (newM first rest)) := by
  obtain ⟨hs, hl⟩ := newM_mem h hf hr
  have hx := fun z => rowL_ref (x := z) hp hs
  have at_ := fun z (j : Nat) (hj : j < (newM first rest).length) => rowL_at (x := z) hp hs hj
  rcases h with ⟨h1, h2⟩ | ⟨h1, h2⟩
  · obtain ⟨a, b, rfl⟩ := len2 h1
    obtain ⟨c, rfl⟩ := len1 h2
    have key : ∀ z, rowL p z (newM [a, b] [c]) = [(a + b * z) % p, (b + c * z) % p] := fun z => by
      rw [list2 (l := rowL p z (newM [a, b] [c])) (by rw [rowL_len hs]; rfl), at_ z 0 (by show 0 < 2; decide), at_ z 1 (by show 1 < 2; decide)]
      show [val z [a, b] % p, val z [b, c] % p] = _
      rw [val2, val2]
    rw [key, key, evalP2, evalP2]
    congr 1
    grind
  · obtain ⟨a, b, c, rfl⟩ := len3 h1
    obtain ⟨d, e, f, rfl⟩ := len3 h2
    have key : ∀ z, rowL p z (newM [a, b, c] [d, e, f]) = [(a + b * z + c * z * z) % p, (b + d * z + e * z * z) % p, (c + e * z + f * z * z) % p] := fun z => by
      rw [list3 (l := rowL p z (newM [a, b, c] [d, e, f])) (by rw [rowL_len hs]; rfl), at_ z 0 (by show 0 < 3; decide), at_ z 1 (by show 1 < 3; decide), at_ z 2 (by show 2 < 3; decide)]
      show [val z [a, b, c] % p, val z [b, d, e] % p, val z [c, e, f] % p] = _
      rw [val3, val3, val3]
    rw [key, key, evalP3, evalP3]
    congr 1
    grind
section
variable {s : Scn} {rd : Int}
theorem stepM_honest {out mat : List (List (List Int))} {d : Dev} {k : Nat} (hf : 1 ≤ d.fr) (h : (k : Int) + 1 ∉ s.bad) : (stepM s rd out mat d).getD k [] = mat.getD k [] := by
  unfold stepM
  split
  · rename_i hc
    have hne : (d.fr - 1).toNat ≠ k := fun e => by
      have e2 : d.fr = (k : Int) + 1 := by omega
      rw [e2] at hc
      exact h hc.2
    rw [List.getD_eq_getElem?_getD, List.getElem?_set_ne hne, ← List.getD_eq_getElem?_getD]
  · rfl
theorem applyM_honest {out : List (List (List Int))} {k : Nat} (hd : ∀ d ∈ s.devs, 1 ≤ d.fr) (h : (k : Int) + 1 ∉ s.bad) : ∀ i, i ≤ s.devs.length → (applyM s rd out i).getD k [] = out.getD k []
  | 0, _ => rfl
  | i + 1, hi => by
    rw [applyM_succ (by omega), stepM_honest (hd _ (List.getElem_mem _)) h]
    exact applyM_honest hd h i (by omega)
end
theorem rsz_same {xs : List Int} {n : Nat} (h : xs.length = n) : rsz xs n = xs := by
  unfold rsz
  rw [List.take_of_length_le (by omega), h, Nat.sub_self]
  simp
theorem drop_flat {α : Type} {f : α → List Int} {w : Nat} : ∀ {l : List α} {k : Nat}, (∀ a ∈ l, (f a).length = w) → k ≤ l.length → ((l.map f).flatten).drop (k * w) = ((l.drop k).map f).flatten
  | [], k, _, hk => by
    have : k = 0 := by simpa using hk
    subst this
    simp
  | a :: l, 0, _, _ => by simp
  | a :: l, k + 1, h, hk => by
    rw [List.map_cons, List.flatten_cons, Nat.succ_mul, Nat.add_comm, ← List.drop_drop, List.drop_left' (h a (by simp)), drop_flat (fun b hb => h b (by simp [hb])) (by simpa using hk), List.drop_succ_cons]
theorem chunks_flat {α : Type} {f : α → List Int} {w : Nat} {l : List α} (h : ∀ a ∈ l, (f a).length = w) : chunks w l.length ((l.map f).flatten) = l.map f := by
  apply List.ext_getElem
  · rw [chunks_len]; simp
  · intro k h1 h2
    rw [chunks_len] at h1
    rw [chunks_at h1, drop_flat h (by omega), List.getElem_map, List.drop_eq_getElem_cons h1, List.map_cons, List.flatten_cons, List.take_left' (h _ (List.getElem_mem h1))]
section
variable {s : Scn} {q : List (List (List Int))} {i j k c : Nat}
theorem DealOk.fr (h : DealOk s q) : ∀ d ∈ s.devs, 1 ≤ d.fr := fun d hd => (h.devs d hd).fr1
theorem DealOk.sq (h : DealOk s q) (hk : k < s.n) : ∀ m ∈ (matsA s q).getD k [], (rowL s.P ((i : Int) + 1) m).length = s.w := fun m hm => by
  obtain ⟨h1, h2⟩ := h.sok.sq k hk m hm
  rw [rowL_len h1, h2]
theorem rows_honest (h : DealOk s q) (hk : k < s.n) (hi : i < s.n) (hh : (k : Int) + 1 ∉ s.bad) : ((dRows s q).getD i []).getD k [] = ((matsA s q).getD k []).map fun m => rowL s.P ((i : Int) + 1) m := by
  obtain ⟨hn, hqn, hn7, hn4⟩ := h.n
  rw [dRows, rowsA_at (by omega), p6Z (by rw [rowsIn_len]; omega), rowsIn_at (by omega), dIn0, recv_at hi, inTo_at hk, applyM_honest h.fr hh _ (Nat.le_refl _), dOut0, outA_at hk, rangeMap_at hi]
  have e : ((matsA s q).getD k []).length = (q.getD k []).length := by rw [matsA_at (by omega), mats_len]
  have hl : (rowsTo s.P ((matsA s q).getD k []) ((i : Int) + 1)).length = (q.getD k []).length * s.w := by
    unfold rowsTo
    rw [flat_len (h.sq hk), e]
  rw [rsz_same hl, ← e]
  exact chunks_flat (h.sq hk)
theorem idx_inj {n e d j' j : Nat} (h1 : j' < n) (h2 : j < n) (h : e * n + j' = d * n + j) : e = d ∧ j' = j := by
  have a1 : (e * n + j') / n = e := by rw [Nat.mul_comm, Nat.mul_add_div (by omega), Nat.div_eq_of_lt h1, Nat.add_zero]
  have a2 : (d * n + j) / n = d := by rw [Nat.mul_comm, Nat.mul_add_div (by omega), Nat.div_eq_of_lt h2, Nat.add_zero]
  rw [h] at a1
  have e0 : e = d := a1.symm.trans a2
  subst e0
  exact ⟨rfl, by omega⟩
theorem mark_get {own rec : List Int} {a k pos x : Nat} {l : List Int} (hp : pos < l.length) : (mark own rec a k pos l).getD x 0 = if x = pos ∧ differ own rec a k = true then 1 else l.getD x 0 := by
  unfold mark
  by_cases hd : differ own rec a k = true
  · rw [if_pos hd]
    by_cases e : x = pos
    · subst e
      rw [if_pos ⟨rfl, hd⟩, List.getD_eq_getElem?_getD, List.getElem?_set_self hp]
      rfl
    · rw [if_neg (fun c => e c.1), List.getD_eq_getElem?_getD, List.getElem?_set_ne (Ne.symm e), ← List.getD_eq_getElem?_getD]
  · rw [if_neg hd, if_neg (fun c => hd c.2)]
theorem flagJ_get {own rec : List Int} {n j e j' : Nat} {l : List Int} (hl : l.length = n * n) (hj : j < n) (hj' : j' < n) : ∀ d, d ≤ n → (flagJ own rec q n j l d).getD (e * n + j') 0 = if j' = j ∧ e < d ∧ differ own rec (offs q e) (q.getD e []).length = true then 1 else l.getD (e * n + j') 0
  | 0, _ => by rw [flagJ, if_neg (by omega)]
  | d + 1, hd => by
    have hpos : d * n + j < n * n := by
      have : (d + 1) * n ≤ n * n := Nat.mul_le_mul_right _ hd
      rw [Nat.succ_mul] at this
      omega
    rw [flagJ, mark_get (by rw [flagJ_len, hl]; exact hpos), flagJ_get hl hj hj' d (by omega)]
    by_cases c1 : e * n + j' = d * n + j
    · obtain ⟨rfl, rfl⟩ := idx_inj hj' hj c1
      by_cases c2 : differ own rec (offs q e) (q.getD e []).length = true
      · rw [if_pos ⟨rfl, c2⟩, if_pos ⟨rfl, by omega, c2⟩]
      · rw [if_neg (fun c => c2 c.2), if_neg (fun c => c2 c.2.2), if_neg (fun c => c2 c.2.2)]
    · rw [if_neg (fun c => c1 c.1)]
      by_cases c2 : j' = j
      · subst c2
        have hne : e ≠ d := fun h => c1 (by rw [h])
        by_cases c3 : e < d
        · simp [c3, show e < d + 1 by omega]
        · simp [c3, show ¬ e < d + 1 by omega]
      · rw [if_neg (fun c => c2 c.1), if_neg (fun c => c2 c.1)]
theorem flagsAcc_get {p : Int} {n e j' : Nat} {Ri : List (List (List Int))} {hd : List (List Int)} (hq : q.length = n) (he : e < n) (hj' : j' < n) : ∀ j, j ≤ n → (flagsAcc p n q i Ri hd j).getD (e * n + j') 0 = if j' < j ∧ j' ≠ i ∧ differ (valsOf p Ri ((j' : Int) + 1)) (rsz (hd.getD j' []) (valsOf p Ri ((j' : Int) + 1)).length) (offs q e) (q.getD e []).length = true then 1 else 0
  | 0, _ => by
    rw [flagsAcc, if_neg (by omega)]
    have hpos : e * n + j' < n * n := by
      have : (e + 1) * n ≤ n * n := Nat.mul_le_mul_right _ he
      rw [Nat.succ_mul] at this
      omega
    rw [p6Z (by simpa using hpos)]
    simp
  | j + 1, hj => by
    have ih := flagsAcc_get (p := p) (Ri := Ri) (hd := hd) hq he hj' j (by omega)
    rw [flagsAcc]
    by_cases c : j = i
    · rw [if_pos c, ih]
      by_cases c2 : j' < j
      · simp [c2, show j' < j + 1 by omega]
      · by_cases c3 : j' = i
        · simp [c3]
        · simp [c2, show ¬ j' < j + 1 by omega]
    · rw [if_neg c, flagJ_get (flagsAcc_len _ _ _ _ _ _ _) (by omega) hj' q.length (by omega), ih]
      by_cases c2 : j' = j
      · subst c2
        simp [c, show e < q.length by omega]
      · rw [if_neg (fun x => c2 x.1)]
        by_cases c3 : j' < j
        · simp [c3, show j' < j + 1 by omega]
        · simp [c3, show ¬ j' < j + 1 by omega]
theorem valsOf_at {p x : Int} {Ri : List (List (List Int))} (h : RwOk p q Ri) {d : Nat} (hd : d < q.length) (hc : c < (q.getD d []).length) : (valsOf p Ri x).getD (offs q d + c) 0 = evalP p x ((Ri.getD d []).getD c []) := by
  have hl := h.len
  have hf := h.few d hd
  have ho := h.offs (x := x) d (by omega)
  have hdl : d < Ri.length := by omega
  have eR : Ri.getD d [] = Ri[d] := p6Z hdl
  have e : valsOf p Ri x = ((Ri.take d).map fun own => own.map fun row => evalP p x row).flatten ++ ((Ri.drop d).map fun own => own.map fun row => evalP p x row).flatten := by
    rw [← List.flatten_append, ← List.map_append, List.take_append_drop]
    rfl
  rw [e, List.getD_eq_getElem?_getD, List.getElem?_append_right (by omega), ho, Nat.add_sub_cancel_left, List.drop_eq_getElem_cons hdl, List.map_cons, List.flatten_cons]
  rw [eR] at hf ⊢
  rw [List.getElem?_append_left (by rw [List.length_map]; omega), List.getElem?_map, p6Z (show c < Ri[d].length by omega), List.getElem?_eq_getElem (show c < Ri[d].length by omega)]
  rfl
theorem differ_iff {own rec : List Int} {a : Nat} : ∀ k, differ own rec a k = true ↔ ∃ c, c < k ∧ rec.getD (a + c) 0 ≠ own.getD (a + c) 0
  | 0 => by simp [differ]
  | k + 1 => by
    simp only [differ, Bool.or_eq_true, decide_eq_true_eq, differ_iff k]
    refine ⟨fun h => ?_, fun ⟨c, h1, h2⟩ => ?_⟩
    · rcases h with ⟨c, h1, h2⟩ | h
      · exact ⟨c, by omega, h2⟩
      · exact ⟨k, by omega, h⟩
    · by_cases e : c = k
      · subst e
        exact .inr h2
      · exact .inl ⟨c, by omega, h2⟩
end
end

section
open Go

section
variable {H : Heap} {v : Value} {rows : List (List Int)} {p most : Int}
section
variable {kx0 : Heap → Prop} {kn kx1 : Value → Value → Value → Value → Heap → Prop} {Q : Ending → Heap → Prop}
end
end
section
variable {H : Heap} {s : Scn} {cv dv tv : Value}
theorem fair_spec (hok : ScnOk H s cv dv tv) (hk : ∀ d ∈ s.devs, 0 ≤ d.k ∧ d.k ≤ 18446744073709551615) (lies words : Int) : qVZ Tryd.prog 50 [scnVal s cv dv tv, .int .i64 lies, .int .i64 words] H (Sound (ScnV s ∧ (s.devs.length : Int) ≤ lies ∧ ∀ l ∈ s.tapes, (l.length : Int) ≤ words) H) := by
  apply call50
  unfold m50
  refine scn_new s cv dv tv fun i H1 l1 hs => ?_
  have hok1 := hok.mono l1
  (repeat (first | refine qQZ (qDZ _) ?_ | refine qQZ (qEZ _) ?_ | refine qQZ (qFZ _ _) ?_ | refine qQZ (qGZ _ _) ?_ | refine qQZ (by (try with_reducible first | refine gV_F ?_ | refine gV_T ?_); first | exact hs.ds | exact hok1.devs.len | exact q1Z _ _ | exact q2Z _ _ _ | exact q3Z _ | exact q4Z _ | exact q5Z _ _ _ | exact q6Z _ _ _ | exact q7Z _ _ _ | exact q8Z _ _ _ | exact q9Z _ _ _ | exact q0Z _ _ _ | exact qHZ (by omega) (by omega) | exact qIZ (by omega) (by omega) | exact qAZ _ | exact qBZ _ _ _ | exact qCZ _ _ _) ?_ | refine qQZ (gV_F rfl) ?_ | refine qQZ (gV_T rfl) ?_))
  by_cases c1 : lies < (s.devs.length : Int)
  · rw [decide_eq_true c1]
    (repeat (first | refine qQZ (qDZ _) ?_ | refine qQZ (qEZ _) ?_ | refine qQZ (qFZ _ _) ?_ | refine qQZ (qGZ _ _) ?_ | refine qQZ (by (try with_reducible first | refine gV_F ?_ | refine gV_T ?_); first | exact q1Z _ _ | exact q2Z _ _ _ | exact q3Z _ | exact q4Z _ | exact q5Z _ _ _ | exact q6Z _ _ _ | exact q7Z _ _ _ | exact q8Z _ _ _ | exact q9Z _ _ _ | exact q0Z _ _ _ | exact qHZ (by omega) (by omega) | exact qIZ (by omega) (by omega) | exact qAZ _ | exact qBZ _ _ _ | exact qCZ _ _ _) ?_ | refine qQZ (gV_F rfl) ?_ | refine qQZ (gV_T rfl) ?_))
    exact qMZ (sound_no l1)
  rw [decide_eq_false c1]
  (repeat (first | refine qQZ (qDZ _) ?_ | refine qQZ (qEZ _) ?_ | refine qQZ (qFZ _ _) ?_ | refine qQZ (qGZ _ _) ?_ | refine qQZ (by (try with_reducible first | refine gV_F ?_ | refine gV_T ?_); first | exact hs.t | exact hok1.tapes.len | exact q1Z _ _ | exact q2Z _ _ _ | exact q3Z _ | exact q4Z _ | exact q5Z _ _ _ | exact q6Z _ _ _ | exact q7Z _ _ _ | exact q8Z _ _ _ | exact q9Z _ _ _ | exact q0Z _ _ _ | exact qHZ (by omega) (by omega) | exact qIZ (by omega) (by omega) | exact qAZ _ | exact qBZ _ _ _ | exact qCZ _ _ _) ?_ | refine qQZ (gV_F rfl) ?_ | refine qQZ (gV_T rfl) ?_))
  by_cases c2 : (13 : Int) < s.tapes.length
  · rw [decide_eq_true c2]
    (repeat (first | refine qQZ (qDZ _) ?_ | refine qQZ (qEZ _) ?_ | refine qQZ (qFZ _ _) ?_ | refine qQZ (qGZ _ _) ?_ | refine qQZ (by (try with_reducible first | refine gV_F ?_ | refine gV_T ?_); first | exact q1Z _ _ | exact q2Z _ _ _ | exact q3Z _ | exact q4Z _ | exact q5Z _ _ _ | exact q6Z _ _ _ | exact q7Z _ _ _ | exact q8Z _ _ _ | exact q9Z _ _ _ | exact q0Z _ _ _ | exact qHZ (by omega) (by omega) | exact qIZ (by omega) (by omega) | exact qAZ _ | exact qBZ _ _ _ | exact qCZ _ _ _) ?_ | refine qQZ (gV_F rfl) ?_ | refine qQZ (gV_T rfl) ?_))
    exact qMZ (sound_no l1)
  rw [decide_eq_false c2]
  (repeat (first | refine qQZ (qDZ _) ?_ | refine qQZ (qEZ _) ?_ | refine qQZ (qFZ _ _) ?_ | refine qQZ (qGZ _ _) ?_ | refine qQZ (by (try with_reducible first | refine gV_F ?_ | refine gV_T ?_); first | exact hs.c | exact hok1.bad.len | exact q1Z _ _ | exact q2Z _ _ _ | exact q3Z _ | exact q4Z _ | exact q5Z _ _ _ | exact q6Z _ _ _ | exact q7Z _ _ _ | exact q8Z _ _ _ | exact q9Z _ _ _ | exact q0Z _ _ _ | exact qHZ (by omega) (by omega) | exact qIZ (by omega) (by omega) | exact qAZ _ | exact qBZ _ _ _ | exact qCZ _ _ _) ?_ | refine qQZ (gV_F rfl) ?_ | refine qQZ (gV_T rfl) ?_))
  refine qJZ (fun _ => sound_no l1) (fun c3 => ?_)
  unfold m50_2
  suffices key : ∀ (d k : Nat), s.tapes.length - k = d → k ≤ s.tapes.length → (∀ l ∈ s.tapes.take k, (l.length : Int) ≤ words) → L50_3 (.int .i64 words) (qTZ i) (.int .i64 k) H1 _ _ from key _ 0 rfl (by omega) (by simp)
  intro d
  induction d with
  | zero =>
    intro k hd hk2 ha
    apply L50_3_round
    unfold m50_4
    (repeat (first | refine qQZ (qDZ _) ?_ | refine qQZ (qEZ _) ?_ | refine qQZ (qFZ _ _) ?_ | refine qQZ (qGZ _ _) ?_ | refine qQZ (by (try with_reducible first | refine gV_F ?_ | refine gV_T ?_); first | exact hs.t | exact hok1.tapes.len | exact q1Z _ _ | exact q2Z _ _ _ | exact q3Z _ | exact q4Z _ | exact q5Z _ _ _ | exact q6Z _ _ _ | exact q7Z _ _ _ | exact q8Z _ _ _ | exact q9Z _ _ _ | exact q0Z _ _ _ | exact qHZ (by omega) (by omega) | exact qIZ (by omega) (by omega) | exact qAZ _ | exact qBZ _ _ _ | exact qCZ _ _ _) ?_ | refine qQZ (gV_F rfl) ?_ | refine qQZ (gV_T rfl) ?_))
    refine qJZ (fun hlt => absurd hlt (by omega)) (fun _ => ?_)
    unfold m50_1
    rw [List.take_of_length_le (by omega)] at ha
    refine qQZ hs.all (p9Z (scn_spec hok1 hk) fun r H2 hr => ?_)
    obtain ⟨l2, b, rfl, hb⟩ := hr
    exact ⟨l1.trans l2, b, rfl, fun e => ⟨hb.1 e, by omega, ha⟩⟩
  | succ d ih =>
    intro k hd hk2 ha
    apply L50_3_round
    unfold m50_4
    (repeat (first | refine qQZ (qDZ _) ?_ | refine qQZ (qEZ _) ?_ | refine qQZ (qFZ _ _) ?_ | refine qQZ (qGZ _ _) ?_ | refine qQZ (by (try with_reducible first | refine gV_F ?_ | refine gV_T ?_); first | exact hs.t | exact hok1.tapes.len | exact q1Z _ _ | exact q2Z _ _ _ | exact q3Z _ | exact q4Z _ | exact q5Z _ _ _ | exact q6Z _ _ _ | exact q7Z _ _ _ | exact q8Z _ _ _ | exact q9Z _ _ _ | exact q0Z _ _ _ | exact qHZ (by omega) (by omega) | exact qIZ (by omega) (by omega) | exact qAZ _ | exact qBZ _ _ _ | exact qCZ _ _ _) ?_ | refine qQZ (gV_F rfl) ?_ | refine qQZ (gV_T rfl) ?_))
    refine qJZ (fun hlt => ?_) (fun hlt => absurd (by omega) hlt)
    obtain ⟨pt, u, a1, a2, a3⟩ := hok1.tapes.row (i := k) (by omega) (ti := ty52) rfl
    (repeat (first | refine qQZ (qDZ _) ?_ | refine qQZ (qEZ _) ?_ | refine qQZ (qFZ _ _) ?_ | refine qQZ (qGZ _ _) ?_ | refine qQZ (by (try with_reducible first | refine gV_F ?_ | refine gV_T ?_); first | exact hs.t | exact a1 | exact a2 | exact a3.len | exact q1Z _ _ | exact q2Z _ _ _ | exact q3Z _ | exact q4Z _ | exact q5Z _ _ _ | exact q6Z _ _ _ | exact q7Z _ _ _ | exact q8Z _ _ _ | exact q9Z _ _ _ | exact q0Z _ _ _ | exact qHZ (by omega) (by omega) | exact qIZ (by omega) (by omega) | exact qAZ _ | exact qBZ _ _ _ | exact qCZ _ _ _) ?_ | refine qQZ (gV_F rfl) ?_ | refine qQZ (gV_T rfl) ?_))
    refine qJZ (fun _ => sound_no l1) (fun c => ?_)
    (repeat (first | refine qQZ (qDZ _) ?_ | refine qQZ (qEZ _) ?_ | refine qQZ (qFZ _ _) ?_ | refine qQZ (qGZ _ _) ?_ | refine qQZ (by (try with_reducible first | refine gV_F ?_ | refine gV_T ?_); first | exact q1Z _ _ | exact q2Z _ _ _ | exact q3Z _ | exact q4Z _ | exact q5Z _ _ _ | exact q6Z _ _ _ | exact q7Z _ _ _ | exact q8Z _ _ _ | exact q9Z _ _ _ | exact q0Z _ _ _ | exact qHZ (by omega) (by omega) | exact qIZ (by omega) (by omega) | exact qAZ _ | exact qBZ _ _ _ | exact qCZ _ _ _) ?_ | refine qQZ (gV_F rfl) ?_ | refine qQZ (gV_T rfl) ?_))
    exact ih (k + 1) (by omega) (by omega) (all_take (by omega) ha (by omega))
end
end

section
open Go

section
variable {H : Heap} {a b v : Value} {s : Scn} {cv dv tv : Value}
theorem honest_spec (hok : Sl (eInt .i64) H cv s.bad) (x : Int) : qVZ Tryd.prog 36 [scnVal s cv dv tv, .int .i64 x] H (Grow (.bool (decide (x ∉ s.bad))) H) := by
  have hmx := hok.max
  apply call36
  unfold m36
  refine scn_new s cv dv tv fun i H1 l1 hs => ?_
  have hb := hok.mono l1
  unfold m36_2
  suffices key : ∀ (d k : Nat), s.bad.length - k = d → k ≤ s.bad.length → (x ∉ s.bad.take k) → L36_3 (.int .i64 x) (qTZ i) (.int .i64 k) H1 _ _ from key _ 0 rfl (by omega) (by simp)
  intro d
  induction d with
  | zero =>
    intro k hd hk h
    apply L36_3_round
    unfold m36_4
    (repeat (first | refine qQZ (qDZ _) ?_ | refine qQZ (qEZ _) ?_ | refine qQZ (qFZ _ _) ?_ | refine qQZ (qGZ _ _) ?_ | refine qQZ (by (try with_reducible first | refine gV_F ?_ | refine gV_T ?_); first | exact hs.c | exact hb.len | exact q1Z _ _ | exact q2Z _ _ _ | exact q3Z _ | exact q4Z _ | exact q5Z _ _ _ | exact q6Z _ _ _ | exact q7Z _ _ _ | exact q8Z _ _ _ | exact q9Z _ _ _ | exact q0Z _ _ _ | exact qHZ (by omega) (by omega) | exact qIZ (by omega) (by omega) | exact qAZ _ | exact qBZ _ _ _ | exact qCZ _ _ _) ?_ | refine qQZ (gV_F rfl) ?_ | refine qQZ (gV_T rfl) ?_))
    refine qJZ (fun hlt => absurd hlt (by omega)) (fun _ => ?_)
    unfold m36_1
    rw [List.take_of_length_le (by omega)] at h
    rw [decide_eq_true h]
    exact ⟨rfl, l1⟩
  | succ d ih =>
    intro k hd hk h
    apply L36_3_round
    unfold m36_4
    (repeat (first | refine qQZ (qDZ _) ?_ | refine qQZ (qEZ _) ?_ | refine qQZ (qFZ _ _) ?_ | refine qQZ (qGZ _ _) ?_ | refine qQZ (by (try with_reducible first | refine gV_F ?_ | refine gV_T ?_); first | exact hs.c | exact hb.len | exact q1Z _ _ | exact q2Z _ _ _ | exact q3Z _ | exact q4Z _ | exact q5Z _ _ _ | exact q6Z _ _ _ | exact q7Z _ _ _ | exact q8Z _ _ _ | exact q9Z _ _ _ | exact q0Z _ _ _ | exact qHZ (by omega) (by omega) | exact qIZ (by omega) (by omega) | exact qAZ _ | exact qBZ _ _ _ | exact qCZ _ _ _) ?_ | refine qQZ (gV_F rfl) ?_ | refine qQZ (gV_T rfl) ?_))
    refine qJZ (fun hlt => ?_) (fun hlt => absurd (by omega) hlt)
    have hkl : k < s.bad.length := by omega
    obtain ⟨pt, a1, a2⟩ := hb.word hkl (ti := ty3) rfl
    (repeat (first | refine qQZ (qDZ _) ?_ | refine qQZ (qEZ _) ?_ | refine qQZ (qFZ _ _) ?_ | refine qQZ (qGZ _ _) ?_ | refine qQZ (by (try with_reducible first | refine gV_F ?_ | refine gV_T ?_); first | exact hs.c | exact a1 | exact a2 | exact q1Z _ _ | exact q2Z _ _ _ | exact q3Z _ | exact q4Z _ | exact q5Z _ _ _ | exact q6Z _ _ _ | exact q7Z _ _ _ | exact q8Z _ _ _ | exact q9Z _ _ _ | exact q0Z _ _ _ | exact qHZ (by omega) (by omega) | exact qIZ (by omega) (by omega) | exact qAZ _ | exact qBZ _ _ _ | exact qCZ _ _ _) ?_ | refine qQZ (gV_F rfl) ?_ | refine qQZ (gV_T rfl) ?_))
    refine qJZ (fun e => ?_) (fun e => ?_)
    · have hx : ¬ x ∉ s.bad := fun c => c (e ▸ List.getElem_mem hkl)
      rw [decide_eq_false hx]
      exact ⟨rfl, l1⟩
    · (repeat (first | refine qQZ (qDZ _) ?_ | refine qQZ (qEZ _) ?_ | refine qQZ (qFZ _ _) ?_ | refine qQZ (qGZ _ _) ?_ | refine qQZ (by (try with_reducible first | refine gV_F ?_ | refine gV_T ?_); first | exact q1Z _ _ | exact q2Z _ _ _ | exact q3Z _ | exact q4Z _ | exact q5Z _ _ _ | exact q6Z _ _ _ | exact q7Z _ _ _ | exact q8Z _ _ _ | exact q9Z _ _ _ | exact q0Z _ _ _ | exact qHZ (by omega) (by omega) | exact qIZ (by omega) (by omega) | exact qAZ _ | exact qBZ _ _ _ | exact qCZ _ _ _) ?_ | refine qQZ (gV_F rfl) ?_ | refine qQZ (gV_T rfl) ?_))
      refine ih (k + 1) (by omega) (by omega) fun hx => ?_
      rw [List.take_succ_eq_append_getElem hkl] at hx
      rcases List.mem_append.1 hx with hx | hx
      · exact h hx
      · exact e (List.mem_singleton.1 hx).symm
theorem sameList_spec {xs : List Int} (ha : Sl (eInt .u64) H a xs) (hb : Sl (eInt .u64) H b xs) : qVZ Tryd.prog 37 [a, b] H (Val (.bool true) H) := by
  have hmx := ha.max
  apply call37
  unfold m37
  (repeat (first | refine qQZ (qDZ _) ?_ | refine qQZ (qEZ _) ?_ | refine qQZ (qFZ _ _) ?_ | refine qQZ (qGZ _ _) ?_ | refine qQZ (by (try with_reducible first | refine gV_F ?_ | refine gV_T ?_); first | exact ha.len | exact hb.len | exact q1Z _ _ | exact q2Z _ _ _ | exact q3Z _ | exact q4Z _ | exact q5Z _ _ _ | exact q6Z _ _ _ | exact q7Z _ _ _ | exact q8Z _ _ _ | exact q9Z _ _ _ | exact q0Z _ _ _ | exact qHZ (by omega) (by omega) | exact qIZ (by omega) (by omega) | exact qAZ _ | exact qBZ _ _ _ | exact qCZ _ _ _) ?_ | refine qQZ (gV_F rfl) ?_ | refine qQZ (gV_T rfl) ?_))
  rw [decide_eq_false (by simp)]
  refine qLZ ?_
  unfold m37_2
  suffices key : ∀ (d i : Nat), xs.length - i = d → i ≤ xs.length → L37_3 a b (.int .i64 i) H _ _ from key _ 0 rfl (by omega)
  intro d
  induction d with
  | zero =>
    intro i hd hi
    apply L37_3_round
    unfold m37_4
    (repeat (first | refine qQZ (qDZ _) ?_ | refine qQZ (qEZ _) ?_ | refine qQZ (qFZ _ _) ?_ | refine qQZ (qGZ _ _) ?_ | refine qQZ (by (try with_reducible first | refine gV_F ?_ | refine gV_T ?_); first | exact ha.len | exact q1Z _ _ | exact q2Z _ _ _ | exact q3Z _ | exact q4Z _ | exact q5Z _ _ _ | exact q6Z _ _ _ | exact q7Z _ _ _ | exact q8Z _ _ _ | exact q9Z _ _ _ | exact q0Z _ _ _ | exact qHZ (by omega) (by omega) | exact qIZ (by omega) (by omega) | exact qAZ _ | exact qBZ _ _ _ | exact qCZ _ _ _) ?_ | refine qQZ (gV_F rfl) ?_ | refine qQZ (gV_T rfl) ?_))
    exact qJZ (fun hlt => absurd hlt (by omega)) (fun _ => ⟨rfl, rfl⟩)
  | succ d ih =>
    intro i hd hi
    apply L37_3_round
    unfold m37_4
    (repeat (first | refine qQZ (qDZ _) ?_ | refine qQZ (qEZ _) ?_ | refine qQZ (qFZ _ _) ?_ | refine qQZ (qGZ _ _) ?_ | refine qQZ (by (try with_reducible first | refine gV_F ?_ | refine gV_T ?_); first | exact ha.len | exact q1Z _ _ | exact q2Z _ _ _ | exact q3Z _ | exact q4Z _ | exact q5Z _ _ _ | exact q6Z _ _ _ | exact q7Z _ _ _ | exact q8Z _ _ _ | exact q9Z _ _ _ | exact q0Z _ _ _ | exact qHZ (by omega) (by omega) | exact qIZ (by omega) (by omega) | exact qAZ _ | exact qBZ _ _ _ | exact qCZ _ _ _) ?_ | refine qQZ (gV_F rfl) ?_ | refine qQZ (gV_T rfl) ?_))
    refine qJZ (fun hlt => ?_) (fun hlt => absurd (by omega) hlt)
    obtain ⟨pa, a1, a2⟩ := ha.word (i := i) (by omega) (ti := ty22) rfl
    obtain ⟨pb, b1, b2⟩ := hb.word (i := i) (by omega) (ti := ty22) rfl
    (repeat (first | refine qQZ (qDZ _) ?_ | refine qQZ (qEZ _) ?_ | refine qQZ (qFZ _ _) ?_ | refine qQZ (qGZ _ _) ?_ | refine qQZ (by (try with_reducible first | refine gV_F ?_ | refine gV_T ?_); first | exact a1 | exact a2 | exact b1 | exact b2 | exact q1Z _ _ | exact q2Z _ _ _ | exact q3Z _ | exact q4Z _ | exact q5Z _ _ _ | exact q6Z _ _ _ | exact q7Z _ _ _ | exact q8Z _ _ _ | exact q9Z _ _ _ | exact q0Z _ _ _ | exact qHZ (by omega) (by omega) | exact qIZ (by omega) (by omega) | exact qAZ _ | exact qBZ _ _ _ | exact qCZ _ _ _) ?_ | refine qQZ (gV_F rfl) ?_ | refine qQZ (gV_T rfl) ?_))
    refine qJZ (fun h => absurd rfl h) (fun _ => ?_)
    (repeat (first | refine qQZ (qDZ _) ?_ | refine qQZ (qEZ _) ?_ | refine qQZ (qFZ _ _) ?_ | refine qQZ (qGZ _ _) ?_ | refine qQZ (by (try with_reducible first | refine gV_F ?_ | refine gV_T ?_); first | exact q1Z _ _ | exact q2Z _ _ _ | exact q3Z _ | exact q4Z _ | exact q5Z _ _ _ | exact q6Z _ _ _ | exact q7Z _ _ _ | exact q8Z _ _ _ | exact q9Z _ _ _ | exact q0Z _ _ _ | exact qHZ (by omega) (by omega) | exact qIZ (by omega) (by omega) | exact qAZ _ | exact qBZ _ _ _ | exact qCZ _ _ _) ?_ | refine qQZ (gV_F rfl) ?_ | refine qQZ (gV_T rfl) ?_))
    exact ih (i + 1) (by omega) (by omega)
theorem sameM_spec {m : List (List Int)} (ha : Sl (qXZ (eInt .u64)) H a m) (hb : Sl (qXZ (eInt .u64)) H b m) : qVZ Tryd.prog 44 [a, b] H (Val (.bool true) H) := by
  have hmx := ha.max
  apply call44
  unfold m44
  (repeat (first | refine qQZ (qDZ _) ?_ | refine qQZ (qEZ _) ?_ | refine qQZ (qFZ _ _) ?_ | refine qQZ (qGZ _ _) ?_ | refine qQZ (by (try with_reducible first | refine gV_F ?_ | refine gV_T ?_); first | exact ha.len | exact hb.len | exact q1Z _ _ | exact q2Z _ _ _ | exact q3Z _ | exact q4Z _ | exact q5Z _ _ _ | exact q6Z _ _ _ | exact q7Z _ _ _ | exact q8Z _ _ _ | exact q9Z _ _ _ | exact q0Z _ _ _ | exact qHZ (by omega) (by omega) | exact qIZ (by omega) (by omega) | exact qAZ _ | exact qBZ _ _ _ | exact qCZ _ _ _) ?_ | refine qQZ (gV_F rfl) ?_ | refine qQZ (gV_T rfl) ?_))
  rw [decide_eq_false (by simp)]
  refine qLZ ?_
  unfold m44_2
  suffices key : ∀ (d i : Nat), m.length - i = d → i ≤ m.length → L44_3 a b (.int .i64 i) H _ _ from key _ 0 rfl (by omega)
  intro d
  induction d with
  | zero =>
    intro i hd hi
    apply L44_3_round
    unfold m44_4
    (repeat (first | refine qQZ (qDZ _) ?_ | refine qQZ (qEZ _) ?_ | refine qQZ (qFZ _ _) ?_ | refine qQZ (qGZ _ _) ?_ | refine qQZ (by (try with_reducible first | refine gV_F ?_ | refine gV_T ?_); first | exact ha.len | exact q1Z _ _ | exact q2Z _ _ _ | exact q3Z _ | exact q4Z _ | exact q5Z _ _ _ | exact q6Z _ _ _ | exact q7Z _ _ _ | exact q8Z _ _ _ | exact q9Z _ _ _ | exact q0Z _ _ _ | exact qHZ (by omega) (by omega) | exact qIZ (by omega) (by omega) | exact qAZ _ | exact qBZ _ _ _ | exact qCZ _ _ _) ?_ | refine qQZ (gV_F rfl) ?_ | refine qQZ (gV_T rfl) ?_))
    exact qJZ (fun hlt => absurd hlt (by omega)) (fun _ => ⟨rfl, rfl⟩)
  | succ d ih =>
    intro i hd hi
    apply L44_3_round
    unfold m44_4
    (repeat (first | refine qQZ (qDZ _) ?_ | refine qQZ (qEZ _) ?_ | refine qQZ (qFZ _ _) ?_ | refine qQZ (qGZ _ _) ?_ | refine qQZ (by (try with_reducible first | refine gV_F ?_ | refine gV_T ?_); first | exact ha.len | exact q1Z _ _ | exact q2Z _ _ _ | exact q3Z _ | exact q4Z _ | exact q5Z _ _ _ | exact q6Z _ _ _ | exact q7Z _ _ _ | exact q8Z _ _ _ | exact q9Z _ _ _ | exact q0Z _ _ _ | exact qHZ (by omega) (by omega) | exact qIZ (by omega) (by omega) | exact qAZ _ | exact qBZ _ _ _ | exact qCZ _ _ _) ?_ | refine qQZ (gV_F rfl) ?_ | refine qQZ (gV_T rfl) ?_))
    refine qJZ (fun hlt => ?_) (fun hlt => absurd (by omega) hlt)
    obtain ⟨pa, ua, a1, a2, a3⟩ := ha.row (i := i) (by omega) (ti := ty52) rfl
    obtain ⟨pb, ub, b1, b2, b3⟩ := hb.row (i := i) (by omega) (ti := ty52) rfl
    (repeat (first | refine qQZ (qDZ _) ?_ | refine qQZ (qEZ _) ?_ | refine qQZ (qFZ _ _) ?_ | refine qQZ (qGZ _ _) ?_ | refine qQZ (by (try with_reducible first | refine gV_F ?_ | refine gV_T ?_); first | exact a1 | exact a2 | exact b1 | exact b2 | exact q1Z _ _ | exact q2Z _ _ _ | exact q3Z _ | exact q4Z _ | exact q5Z _ _ _ | exact q6Z _ _ _ | exact q7Z _ _ _ | exact q8Z _ _ _ | exact q9Z _ _ _ | exact q0Z _ _ _ | exact qHZ (by omega) (by omega) | exact qIZ (by omega) (by omega) | exact qAZ _ | exact qBZ _ _ _ | exact qCZ _ _ _) ?_ | refine qQZ (gV_F rfl) ?_ | refine qQZ (gV_T rfl) ?_))
    refine oRC_val (sameList_spec a3 b3) (qQZ (v := .bool false) rfl (qLZ ?_))
    (repeat (first | refine qQZ (qDZ _) ?_ | refine qQZ (qEZ _) ?_ | refine qQZ (qFZ _ _) ?_ | refine qQZ (qGZ _ _) ?_ | refine qQZ (by (try with_reducible first | refine gV_F ?_ | refine gV_T ?_); first | exact q1Z _ _ | exact q2Z _ _ _ | exact q3Z _ | exact q4Z _ | exact q5Z _ _ _ | exact q6Z _ _ _ | exact q7Z _ _ _ | exact q8Z _ _ _ | exact q9Z _ _ _ | exact q0Z _ _ _ | exact qHZ (by omega) (by omega) | exact qIZ (by omega) (by omega) | exact qAZ _ | exact qBZ _ _ _ | exact qCZ _ _ _) ?_ | refine qQZ (gV_F rfl) ?_ | refine qQZ (gV_T rfl) ?_))
    exact ih (i + 1) (by omega) (by omega)
end
section
variable {H : Heap} {v : Value} {p x : Int} {m : List (List Int)}
end
def dealVal (s : Scn) (cv dv tv qv : Value) : Value := .agg #[.int .u64 s.P, .int .i64 s.N, .int .i64 s.T, cv, dv, tv, qv]
structure DzOk (H : Heap) (s : Scn) (q : List (List (List Int))) (cv dv tv qv : Value) : Prop where
  s : ScnOk H s cv dv tv
  q : Sl (qXZ (qXZ (eInt .u64))) H qv q
theorem DzOk.mono {H G : Heap} {s : Scn} {q : List (List (List Int))} {cv dv tv qv : Value} (h : DzOk H s q cv dv tv qv) (hl : Le H G) : DzOk G s q cv dv tv qv := ⟨h.s.mono hl, h.q.mono hl⟩
structure DzWf (s : Scn) (q : List (List (List Int))) : Prop where
  k : ∀ d ∈ s.devs, 0 ≤ d.k ∧ d.k ≤ 18446744073709551615
  t : ∀ l ∈ s.tapes, ∀ x ∈ l, 0 ≤ x
  w : ∀ m ∈ q, ∀ l ∈ m, ∀ x ∈ l, 0 ≤ x
structure ZAt (H : Heap) (i : Nat) (s : Scn) (cv dv tv qv : Value) : Prop where
  blk : H i = some (.cells [.int .u64 s.P, .int .i64 s.N, .int .i64 s.T, cv, dv, tv, qv] 7 67 true)
section
variable {H G : Heap} {i : Nat} {s : Scn} {q : List (List (List Int))} {cv dv tv qv v : Value}
theorem ZAt.mono (h : ZAt H i s cv dv tv qv) (hl : Le H G) : ZAt G i s cv dv tv qv := ⟨hl _ _ h.blk⟩
theorem ZAt.scn (h : ZAt H i s cv dv tv qv) : qWZ ty29 (.pointer (some ⟨i, 0, none⟩)) H = some (scnVal s cv dv tv) := by simp only [qWZ, h.blk]; rfl
theorem ZAt.n (h : ZAt H i s cv dv tv qv) : qWZ ty3 (.pointer (some ⟨i, 1, none⟩)) H = some (.int .i64 s.N) := by simp only [qWZ, h.blk]; rfl
theorem ZAt.qq (h : ZAt H i s cv dv tv qv) : qWZ ty44 (.pointer (some ⟨i, 6, none⟩)) H = some qv := by simp only [qWZ, h.blk]; rfl
theorem ZAt.all (h : ZAt H i s cv dv tv qv) : qWZ ty67 (qTZ i) H = some (dealVal s cv dv tv qv) := by simp only [qWZ, qTZ, h.blk]; rfl
theorem deal_new {k : Nat → Heap → Prop} (s : Scn) (cv dv tv qv : Value) (hk : ∀ i H', H i = none → H' = hins H i (.cells [.int .u64 s.P, .int .i64 s.N, .int .i64 s.T, cv, dv, tv, qv] 7 67 true) → Le H H' → ZAt H' i s cv dv tv qv → k i H') : oNew (dealVal s cv dv tv qv).cells.toList (dealVal s cv dv tv qv).cells.toList.length 67 H k := by
  intro i hi
  exact hk _ _ hi rfl (Le.ins _ hi) ⟨hins_self _ _ _⟩
theorem rest_spec (H : Heap) {t : Int} (ht : t = 1 ∨ t = 2) : qVZ Tryd.prog 73 [.int .i64 t] H (Val (.int .i64 (restN t)) H) := by
  apply call73
  unfold m73
  obtain ⟨v1, v2, r1, r2, r3⟩ := rest_eq ht
  exact qQZ r1 (qQZ r2 (qQZ r3 ⟨rfl, rfl⟩))
theorem below6_spec {p most : Int} {f : List Int} (hv : Sl (eInt .u64) H v f) : qVZ Tryd.prog 74 [.int .u64 p, v, .int .i64 most] H (Sound ((∀ x ∈ f, x < p)) H) := by
  have hmx := hv.max
  apply call74
  unfold m74 m74_2
  suffices key : ∀ (d k : Nat), f.length - k = d → k ≤ f.length → (∀ x ∈ f.take k, x < p) → L74_3 (.int .u64 p) v (.int .i64 most) (.int .i64 k) H _ _ from key _ 0 rfl (by omega) (by simp)
  have fin : ∀ k : Nat, k ≤ f.length → (∀ x ∈ f.take k, x < p) → (f.length ≤ k ∨ most < (k : Int)) → m74_1 v (.int .i64 most) H (Sound ((∀ x ∈ f, x < p)) H) := fun k hk ha hc => by
    unfold m74_1
    (repeat (first | refine qQZ (qDZ _) ?_ | refine qQZ (qEZ _) ?_ | refine qQZ (qFZ _ _) ?_ | refine qQZ (qGZ _ _) ?_ | refine qQZ (by (try with_reducible first | refine gV_F ?_ | refine gV_T ?_); first | exact hv.len | exact q1Z _ _ | exact q2Z _ _ _ | exact q3Z _ | exact q4Z _ | exact q5Z _ _ _ | exact q6Z _ _ _ | exact q7Z _ _ _ | exact q8Z _ _ _ | exact q9Z _ _ _ | exact q0Z _ _ _ | exact qHZ (by omega) (by omega) | exact qIZ (by omega) (by omega) | exact qAZ _ | exact qBZ _ _ _ | exact qCZ _ _ _) ?_ | refine qQZ (gV_F rfl) ?_ | refine qQZ (gV_T rfl) ?_))
    refine ⟨Le.refl _, _, rfl, fun e => ?_⟩
    have e' := of_decide_eq_true e
    rw [List.take_of_length_le (by omega)] at ha
    exact ha
  intro d
  induction d with
  | zero =>
    intro k hd hk ha
    apply L74_3_round
    unfold m74_4
    refine qQZ hv.len (qQZ (q7Z _ _ _) ?_)
    rw [decide_eq_false (by omega)]
    (repeat (first | refine qQZ (qDZ _) ?_ | refine qQZ (qEZ _) ?_ | refine qQZ (qFZ _ _) ?_ | refine qQZ (qGZ _ _) ?_ | refine qQZ (by (try with_reducible first | refine gV_F ?_ | refine gV_T ?_); first | exact q1Z _ _ | exact q2Z _ _ _ | exact q3Z _ | exact q4Z _ | exact q5Z _ _ _ | exact q6Z _ _ _ | exact q7Z _ _ _ | exact q8Z _ _ _ | exact q9Z _ _ _ | exact q0Z _ _ _ | exact qHZ (by omega) (by omega) | exact qIZ (by omega) (by omega) | exact qAZ _ | exact qBZ _ _ _ | exact qCZ _ _ _) ?_ | refine qQZ (gV_F rfl) ?_ | refine qQZ (gV_T rfl) ?_))
    exact qLZ (fin k hk ha (by omega))
  | succ d ih =>
    intro k hd hk ha
    apply L74_3_round
    unfold m74_4
    refine qQZ hv.len (qQZ (q7Z _ _ _) ?_)
    rw [decide_eq_true (by omega)]
    (repeat (first | refine qQZ (qDZ _) ?_ | refine qQZ (qEZ _) ?_ | refine qQZ (qFZ _ _) ?_ | refine qQZ (qGZ _ _) ?_ | refine qQZ (by (try with_reducible first | refine gV_F ?_ | refine gV_T ?_); first | exact q1Z _ _ | exact q2Z _ _ _ | exact q3Z _ | exact q4Z _ | exact q5Z _ _ _ | exact q6Z _ _ _ | exact q7Z _ _ _ | exact q8Z _ _ _ | exact q9Z _ _ _ | exact q0Z _ _ _ | exact qHZ (by omega) (by omega) | exact qIZ (by omega) (by omega) | exact qAZ _ | exact qBZ _ _ _ | exact qCZ _ _ _) ?_ | refine qQZ (gV_F rfl) ?_ | refine qQZ (gV_T rfl) ?_))
    refine qJZ (fun hlt => ?_) (fun hlt => fin k hk ha (by omega))
    have hkl : k < f.length := by omega
    obtain ⟨pt, a1, a2⟩ := hv.word hkl (ti := ty22) rfl
    (repeat (first | refine qQZ (qDZ _) ?_ | refine qQZ (qEZ _) ?_ | refine qQZ (qFZ _ _) ?_ | refine qQZ (qGZ _ _) ?_ | refine qQZ (by (try with_reducible first | refine gV_F ?_ | refine gV_T ?_); first | exact a1 | exact a2 | exact q1Z _ _ | exact q2Z _ _ _ | exact q3Z _ | exact q4Z _ | exact q5Z _ _ _ | exact q6Z _ _ _ | exact q7Z _ _ _ | exact q8Z _ _ _ | exact q9Z _ _ _ | exact q0Z _ _ _ | exact qHZ (by omega) (by omega) | exact qIZ (by omega) (by omega) | exact qAZ _ | exact qBZ _ _ _ | exact qCZ _ _ _) ?_ | refine qQZ (gV_F rfl) ?_ | refine qQZ (gV_T rfl) ?_))
    refine qJZ (fun _ => sound_no (Le.refl _)) (fun hx => ?_)
    (repeat (first | refine qQZ (qDZ _) ?_ | refine qQZ (qEZ _) ?_ | refine qQZ (qFZ _ _) ?_ | refine qQZ (qGZ _ _) ?_ | refine qQZ (by (try with_reducible first | refine gV_F ?_ | refine gV_T ?_); first | exact q1Z _ _ | exact q2Z _ _ _ | exact q3Z _ | exact q4Z _ | exact q5Z _ _ _ | exact q6Z _ _ _ | exact q7Z _ _ _ | exact q8Z _ _ _ | exact q9Z _ _ _ | exact q0Z _ _ _ | exact qHZ (by omega) (by omega) | exact qIZ (by omega) (by omega) | exact qAZ _ | exact qBZ _ _ _ | exact qCZ _ _ _) ?_ | refine qQZ (gV_F rfl) ?_ | refine qQZ (gV_T rfl) ?_))
    exact ih (k + 1) (by omega) (by omega) (all_take hkl ha (by omega))
end
end

section
open Go

section
variable {H G : Heap} {i : Nat} {s : Scn} {q : List (List (List Int))} {cv dv tv qv v : Value}
structure QOk (s : Scn) (q : List (List (List Int))) (d : Nat) : Prop where
  q3 : (q.getD d []).length ≤ 3
  qw : ∀ f ∈ q.getD d [], (f.length : Int) = s.T + 1 ∧ rng s.P f
  tw : (q.getD d []).length * restN s.T ≤ (s.tapes.getD d []).length
theorem fair18_in (hs : SAt H i s cv dv tv) (hq : Sl (qXZ (qXZ (eInt .u64))) H qv q) {d : Nat} (hd : d < q.length) (hw : ∀ f ∈ q[d], ∀ x ∈ f, 0 ≤ x) {H0 : Heap} {P : Prop} {x2 : Value} {kn kx1 : Value → Value → Value → Value → Heap → Prop} {kx0 : Heap → Prop} (hl : Le H0 H) (ht : s.T = 1 ∨ s.T = 2)
    (hk : ∀ K, Le H K → (∀ f ∈ q[d], (f.length : Int) = s.T + 1 ∧ rng s.P f) → kn qv x2 (qTZ i) (.int .i64 d) K) :
    ∀ (r k : Nat) (K : Heap), Le H K → q[d].length - k = r → k ≤ q[d].length → (∀ f ∈ q[d].take k, (f.length : Int) = s.T + 1 ∧ rng s.P f) → L33_8 qv x2 (qTZ i) (.int .i64 d) (.int .i64 k) K kn kx1 kx0 (Sound P H0) := by
  obtain ⟨pq, uq, q1, q2, q3⟩ := hq.row hd (ti := ty27) rfl
  have hmx := q3.max
  intro r
  induction r with
  | zero =>
    intro k K hK hr hk2 ha
    apply L33_8_round
    unfold m33_9
    (repeat (first | refine qQZ (qDZ _) ?_ | refine qQZ (qEZ _) ?_ | refine qQZ (qFZ _ _) ?_ | refine qQZ (qGZ _ _) ?_ | refine qQZ (by (try with_reducible first | refine gV_F ?_ | refine gV_T ?_); first | exact q1 | exact qKZ hK q2 | exact q3.len | exact q1Z _ _ | exact q2Z _ _ _ | exact q3Z _ | exact q4Z _ | exact q5Z _ _ _ | exact q6Z _ _ _ | exact q7Z _ _ _ | exact q8Z _ _ _ | exact q9Z _ _ _ | exact q0Z _ _ _ | exact qHZ (by omega) (by omega) | exact qIZ (by omega) (by omega) | exact qAZ _ | exact qBZ _ _ _ | exact qCZ _ _ _) ?_ | refine qQZ (gV_F rfl) ?_ | refine qQZ (gV_T rfl) ?_))
    refine qJZ (fun hlt => absurd hlt (by omega)) (fun _ => hk K hK ?_)
    rwa [List.take_of_length_le (by omega)] at ha
  | succ r ih =>
    intro k K hK hr hk2 ha
    apply L33_8_round
    unfold m33_9
    (repeat (first | refine qQZ (qDZ _) ?_ | refine qQZ (qEZ _) ?_ | refine qQZ (qFZ _ _) ?_ | refine qQZ (qGZ _ _) ?_ | refine qQZ (by (try with_reducible first | refine gV_F ?_ | refine gV_T ?_); first | exact q1 | exact qKZ hK q2 | exact q3.len | exact q1Z _ _ | exact q2Z _ _ _ | exact q3Z _ | exact q4Z _ | exact q5Z _ _ _ | exact q6Z _ _ _ | exact q7Z _ _ _ | exact q8Z _ _ _ | exact q9Z _ _ _ | exact q0Z _ _ _ | exact qHZ (by omega) (by omega) | exact qIZ (by omega) (by omega) | exact qAZ _ | exact qBZ _ _ _ | exact qCZ _ _ _) ?_ | refine qQZ (gV_F rfl) ?_ | refine qQZ (gV_T rfl) ?_))
    refine qJZ (fun hlt => ?_) (fun hlt => absurd (by omega) hlt)
    have hkl : k < q[d].length := by omega
    obtain ⟨pf, uf, f1, f2, f3⟩ := q3.row hkl (ti := ty52) rfl
    have hsK := hs.mono hK
    have ldT : qWZ ty3 (.pointer (some ⟨i, 2, none⟩)) K = some (.int .i64 s.T) := by simp only [qWZ, hsK.blk]; rfl
    (repeat (first | refine qQZ (qDZ _) ?_ | refine qQZ (qEZ _) ?_ | refine qQZ (qFZ _ _) ?_ | refine qQZ (qGZ _ _) ?_ | refine qQZ (by (try with_reducible first | refine gV_F ?_ | refine gV_T ?_); first | exact q1 | exact qKZ hK q2 | exact f1 | exact qKZ hK f2 | exact f3.len | exact ldT | exact q1Z _ _ | exact q2Z _ _ _ | exact q3Z _ | exact q4Z _ | exact q5Z _ _ _ | exact q6Z _ _ _ | exact q7Z _ _ _ | exact q8Z _ _ _ | exact q9Z _ _ _ | exact q0Z _ _ _ | exact qHZ (by omega) (by omega) | exact qIZ (by omega) (by omega) | exact qAZ _ | exact qBZ _ _ _ | exact qCZ _ _ _) ?_ | refine qQZ (gV_F rfl) ?_ | refine qQZ (gV_T rfl) ?_))
    by_cases c : (q[d][k].length : Int) ≠ s.T + 1
    · rw [decide_eq_true c]
      (repeat (first | refine qQZ (qDZ _) ?_ | refine qQZ (qEZ _) ?_ | refine qQZ (qFZ _ _) ?_ | refine qQZ (qGZ _ _) ?_ | refine qQZ (by (try with_reducible first | refine gV_F ?_ | refine gV_T ?_); first | exact q1Z _ _ | exact q2Z _ _ _ | exact q3Z _ | exact q4Z _ | exact q5Z _ _ _ | exact q6Z _ _ _ | exact q7Z _ _ _ | exact q8Z _ _ _ | exact q9Z _ _ _ | exact q0Z _ _ _ | exact qHZ (by omega) (by omega) | exact qIZ (by omega) (by omega) | exact qAZ _ | exact qBZ _ _ _ | exact qCZ _ _ _) ?_ | refine qQZ (gV_F rfl) ?_ | refine qQZ (gV_T rfl) ?_))
      refine gK_TF ?_
      (repeat (first | refine qQZ (qDZ _) ?_ | refine qQZ (qEZ _) ?_ | refine qQZ (qFZ _ _) ?_ | refine qQZ (qGZ _ _) ?_ | refine qQZ (by (try with_reducible first | refine gV_F ?_ | refine gV_T ?_); first | exact q1Z _ _ | exact q2Z _ _ _ | exact q3Z _ | exact q4Z _ | exact q5Z _ _ _ | exact q6Z _ _ _ | exact q7Z _ _ _ | exact q8Z _ _ _ | exact q9Z _ _ _ | exact q0Z _ _ _ | exact qHZ (by omega) (by omega) | exact qIZ (by omega) (by omega) | exact qAZ _ | exact qBZ _ _ _ | exact qCZ _ _ _) ?_ | refine qQZ (gV_F rfl) ?_ | refine qQZ (gV_T rfl) ?_))
      exact qMZ (sound_no (hl.trans hK))
    rw [decide_eq_false c]
    (repeat (first | refine qQZ (qDZ _) ?_ | refine qQZ (qEZ _) ?_ | refine qQZ (qFZ _ _) ?_ | refine qQZ (qGZ _ _) ?_ | refine qQZ (by (try with_reducible first | refine gV_F ?_ | refine gV_T ?_); first | exact hsK.p | exact q1 | exact qKZ hK q2 | exact f1 | exact qKZ hK f2 | exact q1Z _ _ | exact q2Z _ _ _ | exact q3Z _ | exact q4Z _ | exact q5Z _ _ _ | exact q6Z _ _ _ | exact q7Z _ _ _ | exact q8Z _ _ _ | exact q9Z _ _ _ | exact q0Z _ _ _ | exact qHZ (by omega) (by omega) | exact qIZ (by omega) (by omega) | exact qAZ _ | exact qBZ _ _ _ | exact qCZ _ _ _) ?_ | refine qQZ (gV_F rfl) ?_ | refine qQZ (gV_T rfl) ?_))
    refine gK_FF (p9Z (below6_spec (f3.mono hK)) fun v K2 hv => ?_)
    obtain ⟨l2, b, rfl, hb⟩ := hv
    cases b with
    | false =>
      (repeat (first | refine qQZ (qDZ _) ?_ | refine qQZ (qEZ _) ?_ | refine qQZ (qFZ _ _) ?_ | refine qQZ (qGZ _ _) ?_ | refine qQZ (by (try with_reducible first | refine gV_F ?_ | refine gV_T ?_); first | exact q1Z _ _ | exact q2Z _ _ _ | exact q3Z _ | exact q4Z _ | exact q5Z _ _ _ | exact q6Z _ _ _ | exact q7Z _ _ _ | exact q8Z _ _ _ | exact q9Z _ _ _ | exact q0Z _ _ _ | exact qHZ (by omega) (by omega) | exact qIZ (by omega) (by omega) | exact qAZ _ | exact qBZ _ _ _ | exact qCZ _ _ _) ?_ | refine qQZ (gV_F rfl) ?_ | refine qQZ (gV_T rfl) ?_))
      exact qMZ (sound_no ((hl.trans hK).trans l2))
    | true =>
      (repeat (first | refine qQZ (qDZ _) ?_ | refine qQZ (qEZ _) ?_ | refine qQZ (qFZ _ _) ?_ | refine qQZ (qGZ _ _) ?_ | refine qQZ (by (try with_reducible first | refine gV_F ?_ | refine gV_T ?_); first | exact q1Z _ _ | exact q2Z _ _ _ | exact q3Z _ | exact q4Z _ | exact q5Z _ _ _ | exact q6Z _ _ _ | exact q7Z _ _ _ | exact q8Z _ _ _ | exact q9Z _ _ _ | exact q0Z _ _ _ | exact qHZ (by omega) (by omega) | exact qIZ (by omega) (by omega) | exact qAZ _ | exact qBZ _ _ _ | exact qCZ _ _ _) ?_ | refine qQZ (gV_F rfl) ?_ | refine qQZ (gV_T rfl) ?_))
      refine qLZ ?_
      (repeat (first | refine qQZ (qDZ _) ?_ | refine qQZ (qEZ _) ?_ | refine qQZ (qFZ _ _) ?_ | refine qQZ (qGZ _ _) ?_ | refine qQZ (by (try with_reducible first | refine gV_F ?_ | refine gV_T ?_); first | exact q1Z _ _ | exact q2Z _ _ _ | exact q3Z _ | exact q4Z _ | exact q5Z _ _ _ | exact q6Z _ _ _ | exact q7Z _ _ _ | exact q8Z _ _ _ | exact q9Z _ _ _ | exact q0Z _ _ _ | exact qHZ (by omega) (by omega) | exact qIZ (by omega) (by omega) | exact qAZ _ | exact qBZ _ _ _ | exact qCZ _ _ _) ?_ | refine qQZ (gV_F rfl) ?_ | refine qQZ (gV_T rfl) ?_))
      exact ih (k + 1) K2 (hK.trans l2) (by omega) (by omega) (all_take hkl ha ⟨by omega, fun x hx => ⟨hw _ (List.getElem_mem hkl) x hx, hb rfl x hx⟩⟩)
theorem fair18_spec (hok : DzOk H s q cv dv tv qv) (hwf : DzWf s q) : qVZ Tryd.prog 33 [scnVal s cv dv tv, qv, .int .i64 3] H (Sound (DealOk s q) H) := by
  apply call33
  unfold m33
  refine scn_new s cv dv tv fun i H1 l1 hs => ?_
  refine qQZ hs.all (p9Z (fair_spec (hok.s.mono l1) hwf.k 8 200) fun r H2 hr => ?_)
  obtain ⟨l2, b, rfl, hb⟩ := hr
  have l := l1.trans l2
  replace hs := hs.mono l2
  have hq := hok.q.mono l
  have hmx := hok.q.max
  cases b with
  | false =>
    (repeat (first | refine qQZ (qDZ _) ?_ | refine qQZ (qEZ _) ?_ | refine qQZ (qFZ _ _) ?_ | refine qQZ (qGZ _ _) ?_ | refine qQZ (by (try with_reducible first | refine gV_F ?_ | refine gV_T ?_); first | exact q1Z _ _ | exact q2Z _ _ _ | exact q3Z _ | exact q4Z _ | exact q5Z _ _ _ | exact q6Z _ _ _ | exact q7Z _ _ _ | exact q8Z _ _ _ | exact q9Z _ _ _ | exact q0Z _ _ _ | exact qHZ (by omega) (by omega) | exact qIZ (by omega) (by omega) | exact qAZ _ | exact qBZ _ _ _ | exact qCZ _ _ _) ?_ | refine qQZ (gV_F rfl) ?_ | refine qQZ (gV_T rfl) ?_))
    exact qMZ (sound_no l)
  | true =>
    obtain ⟨hV, hdl, htl⟩ := hb rfl
    (repeat (first | refine qQZ (qDZ _) ?_ | refine qQZ (qEZ _) ?_ | refine qQZ (qFZ _ _) ?_ | refine qQZ (qGZ _ _) ?_ | refine qQZ (by (try with_reducible first | refine gV_F ?_ | refine gV_T ?_); first | exact hq.len | exact hs.n | exact q6Z .i64 (q.length : Int) s.N | exact q1Z _ _ | exact q2Z _ _ _ | exact q3Z _ | exact q4Z _ | exact q5Z _ _ _ | exact q6Z _ _ _ | exact q7Z _ _ _ | exact q8Z _ _ _ | exact q9Z _ _ _ | exact q0Z _ _ _ | exact qHZ (by omega) (by omega) | exact qIZ (by omega) (by omega) | exact qAZ _ | exact qBZ _ _ _ | exact qCZ _ _ _) ?_ | refine qQZ (gV_F rfl) ?_ | refine qQZ (gV_T rfl) ?_))
    by_cases c1 : (q.length : Int) ≠ s.N
    · rw [decide_eq_true c1]
      (repeat (first | refine qQZ (qDZ _) ?_ | refine qQZ (qEZ _) ?_ | refine qQZ (qFZ _ _) ?_ | refine qQZ (qGZ _ _) ?_ | refine qQZ (by (try with_reducible first | refine gV_F ?_ | refine gV_T ?_); first | exact q1Z _ _ | exact q2Z _ _ _ | exact q3Z _ | exact q4Z _ | exact q5Z _ _ _ | exact q6Z _ _ _ | exact q7Z _ _ _ | exact q8Z _ _ _ | exact q9Z _ _ _ | exact q0Z _ _ _ | exact qHZ (by omega) (by omega) | exact qIZ (by omega) (by omega) | exact qAZ _ | exact qBZ _ _ _ | exact qCZ _ _ _) ?_ | refine qQZ (gV_F rfl) ?_ | refine qQZ (gV_T rfl) ?_))
      exact qMZ (sound_no l)
    rw [decide_eq_false c1]
    (repeat (first | refine qQZ (qDZ _) ?_ | refine qQZ (qEZ _) ?_ | refine qQZ (qFZ _ _) ?_ | refine qQZ (qGZ _ _) ?_ | refine qQZ (by (try with_reducible first | refine gV_F ?_ | refine gV_T ?_); first | exact hs.n | exact q1Z _ _ | exact q2Z _ _ _ | exact q3Z _ | exact q4Z _ | exact q5Z _ _ _ | exact q6Z _ _ _ | exact q7Z _ _ _ | exact q8Z _ _ _ | exact q9Z _ _ _ | exact q0Z _ _ _ | exact qHZ (by omega) (by omega) | exact qIZ (by omega) (by omega) | exact qAZ _ | exact qBZ _ _ _ | exact qCZ _ _ _) ?_ | refine qQZ (gV_F rfl) ?_ | refine qQZ (gV_T rfl) ?_))
    refine qJZ (fun _ => sound_no l) (fun c2 => ?_)
    obtain ⟨hp, hn4, hn13, hnp, hT1, _, hT3⟩ := hV.par
    have hT : s.T = 1 ∨ s.T = 2 := by omega
    have hlen := hV.len
    have hok2 := hok.s.mono l
    unfold m33_2
    suffices key : ∀ (r d : Nat) (K : Heap), Le H2 K → q.length - d = r → d ≤ q.length → (∀ e, e < d → QOk s q e) → L33_3 qv (.int .i64 3) (qTZ i) (.int .i64 d) K _ _ from key _ 0 H2 (Le.refl _) rfl (by omega) (fun e he => by omega)
    intro r
    induction r with
    | zero =>
      intro d K hK hr hd ha
      apply L33_3_round
      unfold m33_4
      (repeat (first | refine qQZ (qDZ _) ?_ | refine qQZ (qEZ _) ?_ | refine qQZ (qFZ _ _) ?_ | refine qQZ (qGZ _ _) ?_ | refine qQZ (by (try with_reducible first | refine gV_F ?_ | refine gV_T ?_); first | exact hq.len | exact q1Z _ _ | exact q2Z _ _ _ | exact q3Z _ | exact q4Z _ | exact q5Z _ _ _ | exact q6Z _ _ _ | exact q7Z _ _ _ | exact q8Z _ _ _ | exact q9Z _ _ _ | exact q0Z _ _ _ | exact qHZ (by omega) (by omega) | exact qIZ (by omega) (by omega) | exact qAZ _ | exact qBZ _ _ _ | exact qCZ _ _ _) ?_ | refine qQZ (gV_F rfl) ?_ | refine qQZ (gV_T rfl) ?_))
      refine qJZ (fun hlt => absurd hlt (by omega)) (fun _ => ?_)
      unfold m33_1
      refine sound_yes (l.trans hK) ⟨hV, by omega, by omega, fun d hd => (ha d (by omega)).q3, fun d hd => (ha d (by omega)).qw, fun d hd => (ha d (by omega)).tw, fun d => ?_, fun d => ?_⟩
      · by_cases e : d < s.tapes.length
        · rw [p6Z e]
          exact fun x hx => ⟨hwf.t _ (List.getElem_mem e) x hx, hV.tapes _ (List.getElem_mem e) x hx⟩
        · rw [List.getD_eq_getElem?_getD, List.getElem?_eq_none (by omega)]
          intro x hx
          cases hx
      · by_cases e : d < s.tapes.length
        · rw [p6Z e]
          have := htl _ (List.getElem_mem e)
          omega
        · rw [List.getD_eq_getElem?_getD, List.getElem?_eq_none (by omega)]
          exact Nat.zero_le _
    | succ r ih =>
      intro d K hK hr hd ha
      apply L33_3_round
      unfold m33_4
      (repeat (first | refine qQZ (qDZ _) ?_ | refine qQZ (qEZ _) ?_ | refine qQZ (qFZ _ _) ?_ | refine qQZ (qGZ _ _) ?_ | refine qQZ (by (try with_reducible first | refine gV_F ?_ | refine gV_T ?_); first | exact hq.len | exact q1Z _ _ | exact q2Z _ _ _ | exact q3Z _ | exact q4Z _ | exact q5Z _ _ _ | exact q6Z _ _ _ | exact q7Z _ _ _ | exact q8Z _ _ _ | exact q9Z _ _ _ | exact q0Z _ _ _ | exact qHZ (by omega) (by omega) | exact qIZ (by omega) (by omega) | exact qAZ _ | exact qBZ _ _ _ | exact qCZ _ _ _) ?_ | refine qQZ (gV_F rfl) ?_ | refine qQZ (gV_T rfl) ?_))
      refine qJZ (fun hlt => ?_) (fun hlt => absurd (by omega) hlt)
      unfold m33_6 m33_7
      have hdl : d < q.length := by omega
      have hdt : d < s.tapes.length := by omega
      have hsK := hs.mono hK
      obtain ⟨pq, uq, q1, q2, q3⟩ := hq.row hdl (ti := ty27) rfl
      obtain ⟨pt, ut, t1, t2, t3⟩ := hok2.tapes.row hdt (ti := ty52) rfl
      have eq : q.getD d [] = q[d] := p6Z hdl
      have et : s.tapes.getD d [] = s.tapes[d] := p6Z hdt
      have ldT : qWZ ty3 (.pointer (some ⟨i, 2, none⟩)) K = some (.int .i64 s.T) := by simp only [qWZ, hsK.blk]; rfl
      (repeat (first | refine qQZ (qDZ _) ?_ | refine qQZ (qEZ _) ?_ | refine qQZ (qFZ _ _) ?_ | refine qQZ (qGZ _ _) ?_ | refine qQZ (by (try with_reducible first | refine gV_F ?_ | refine gV_T ?_); first | exact q1 | exact qKZ hK q2 | exact q3.len | exact q1Z _ _ | exact q2Z _ _ _ | exact q3Z _ | exact q4Z _ | exact q5Z _ _ _ | exact q6Z _ _ _ | exact q7Z _ _ _ | exact q8Z _ _ _ | exact q9Z _ _ _ | exact q0Z _ _ _ | exact qHZ (by omega) (by omega) | exact qIZ (by omega) (by omega) | exact qAZ _ | exact qBZ _ _ _ | exact qCZ _ _ _) ?_ | refine qQZ (gV_F rfl) ?_ | refine qQZ (gV_T rfl) ?_))
      by_cases c3 : (3 : Int) < q[d].length
      · rw [decide_eq_true c3]
        (repeat (first | refine qQZ (qDZ _) ?_ | refine qQZ (qEZ _) ?_ | refine qQZ (qFZ _ _) ?_ | refine qQZ (qGZ _ _) ?_ | refine qQZ (by (try with_reducible first | refine gV_F ?_ | refine gV_T ?_); first | exact q1Z _ _ | exact q2Z _ _ _ | exact q3Z _ | exact q4Z _ | exact q5Z _ _ _ | exact q6Z _ _ _ | exact q7Z _ _ _ | exact q8Z _ _ _ | exact q9Z _ _ _ | exact q0Z _ _ _ | exact qHZ (by omega) (by omega) | exact qIZ (by omega) (by omega) | exact qAZ _ | exact qBZ _ _ _ | exact qCZ _ _ _) ?_ | refine qQZ (gV_F rfl) ?_ | refine qQZ (gV_T rfl) ?_))
        refine gK_TF ⟨rfl, rfl, rfl, ?_⟩
        (repeat (first | refine qQZ (qDZ _) ?_ | refine qQZ (qEZ _) ?_ | refine qQZ (qFZ _ _) ?_ | refine qQZ (qGZ _ _) ?_ | refine qQZ (by (try with_reducible first | refine gV_F ?_ | refine gV_T ?_); first | exact q1Z _ _ | exact q2Z _ _ _ | exact q3Z _ | exact q4Z _ | exact q5Z _ _ _ | exact q6Z _ _ _ | exact q7Z _ _ _ | exact q8Z _ _ _ | exact q9Z _ _ _ | exact q0Z _ _ _ | exact qHZ (by omega) (by omega) | exact qIZ (by omega) (by omega) | exact qAZ _ | exact qBZ _ _ _ | exact qCZ _ _ _) ?_ | refine qQZ (gV_F rfl) ?_ | refine qQZ (gV_T rfl) ?_))
        exact qMZ (sound_no (l.trans hK))
      rw [decide_eq_false c3]
      (repeat (first | refine qQZ (qDZ _) ?_ | refine qQZ (qEZ _) ?_ | refine qQZ (qFZ _ _) ?_ | refine qQZ (qGZ _ _) ?_ | refine qQZ (by (try with_reducible first | refine gV_F ?_ | refine gV_T ?_); first | exact hsK.t | exact t1 | exact qKZ hK t2 | exact t3.len | exact q1 | exact qKZ hK q2 | exact q3.len | exact ldT | exact q1Z _ _ | exact q2Z _ _ _ | exact q3Z _ | exact q4Z _ | exact q5Z _ _ _ | exact q6Z _ _ _ | exact q7Z _ _ _ | exact q8Z _ _ _ | exact q9Z _ _ _ | exact q0Z _ _ _ | exact qHZ (by omega) (by omega) | exact qIZ (by omega) (by omega) | exact qAZ _ | exact qBZ _ _ _ | exact qCZ _ _ _) ?_ | refine qQZ (gV_F rfl) ?_ | refine qQZ (gV_T rfl) ?_))
      refine gK_FF (oRC_val (rest_spec K hT) ⟨gV_F (qKZ hK q2), gV_F (qKZ hK t2), gV_F hsK.t, ?_⟩)
      have hR : restN s.T ≤ 3 := by unfold restN; split <;> decide
      have hm : q[d].length * restN s.T ≤ 3 * 3 := Nat.mul_le_mul (by omega) hR
      (repeat (first | refine qQZ (qDZ _) ?_ | refine qQZ (qEZ _) ?_ | refine qQZ (qFZ _ _) ?_ | refine qQZ (qGZ _ _) ?_ | refine qQZ (by (try with_reducible first | refine gV_F ?_ | refine gV_T ?_); first | exact mul_nat (a := q[d].length) (b := restN s.T) (by omega) | exact q1Z _ _ | exact q2Z _ _ _ | exact q3Z _ | exact q4Z _ | exact q5Z _ _ _ | exact q6Z _ _ _ | exact q7Z _ _ _ | exact q8Z _ _ _ | exact q9Z _ _ _ | exact q0Z _ _ _ | exact qHZ (by omega) (by omega) | exact qIZ (by omega) (by omega) | exact qAZ _ | exact qBZ _ _ _ | exact qCZ _ _ _) ?_ | refine qQZ (gV_F rfl) ?_ | refine qQZ (gV_T rfl) ?_))
      refine qJZ (fun _ => sound_no (l.trans hK)) (fun c4 => ?_)
      refine fair18_in hsK (hq.mono hK) hdl (hwf.w _ (List.getElem_mem hdl)) (l.trans hK) hT (fun K2 hK2 hf => ?_) _ 0 K (Le.refl _) rfl (by omega) (by simp)
      unfold m33_5
      (repeat (first | refine qQZ (qDZ _) ?_ | refine qQZ (qEZ _) ?_ | refine qQZ (qFZ _ _) ?_ | refine qQZ (qGZ _ _) ?_ | refine qQZ (by (try with_reducible first | refine gV_F ?_ | refine gV_T ?_); first | exact q1Z _ _ | exact q2Z _ _ _ | exact q3Z _ | exact q4Z _ | exact q5Z _ _ _ | exact q6Z _ _ _ | exact q7Z _ _ _ | exact q8Z _ _ _ | exact q9Z _ _ _ | exact q0Z _ _ _ | exact qHZ (by omega) (by omega) | exact qIZ (by omega) (by omega) | exact qAZ _ | exact qBZ _ _ _ | exact qCZ _ _ _) ?_ | refine qQZ (gV_F rfl) ?_ | refine qQZ (gV_T rfl) ?_))
      refine ih (d + 1) K2 (hK.trans hK2) (by omega) (by omega) fun e he => ?_
      by_cases c : e = d
      · subst c
        exact ⟨by rw [eq]; omega, by rw [eq]; exact hf, by rw [eq, et]; omega⟩
      · exact ha e (by omega)
theorem dealt_mono {R H K : Heap} {tg : Nat → Nat} {jn : Nat} {tp Sv Rv Fv : Value} {qs : List Nat} (h : Dealt s q R H tg jn cv dv tv tp qs Sv Rv Fv) (hl : Le H K) : Dealt s q R K tg jn cv dv tv tp qs Sv Rv Fv :=
  ⟨h.lab.mono hl, h.net.stay (F := fun _ => True) (by decide) (h.lab.mono hl) (Le.refl _) ⟨rfl, fun b c _ hc => hl b c hc⟩, h.tap.stay (Le.refl _) ⟨rfl, fun b c _ hc => hl b c hc⟩, h.mats, h.rows, h.flags⟩
def Deals (s : Scn) (q : List (List (List Int))) (cv dv tv : Value) (H : Heap) : Ending → Heap → Prop := Ret fun v H' => ∃ R tg jn tp qs Sv Rv Fv, Le H R ∧ v = .tuple #[.agg #[Sv, Rv, Fv], qTZ jn, .bool true] ∧ Dealt s q R H' tg jn cv dv tv tp qs Sv Rv Fv
theorem dist18_spec (hG : GL H) (hok : DzOk H s q cv dv tv qv) (hwf : DzWf s q) (hD : DealOk s q) : qVZ Tryd.prog 34 [dealVal s cv dv tv qv] H (Deals s q cv dv tv H) := by
  apply call34
  unfold m34
  refine deal_new s cv dv tv qv fun i1 H1 hi1 _ l1 hz => ?_
  show oNew [.slice none 0 0, .slice none 0 0, .slice none 0 0] 3 71 H1 _
  intro i3 hi3
  have l2 : Le H1 (hins H1 i3 (.cells [.slice none 0 0, .slice none 0 0, .slice none 0 0] 3 71 true)) := Le.ins _ hi3
  have k2 : hins H1 i3 (.cells [.slice none 0 0, .slice none 0 0, .slice none 0 0] 3 71 true) i3 = some (.cells [.slice none 0 0, .slice none 0 0, .slice none 0 0] 3 71 true) := hins_self _ _ _
  generalize hins H1 i3 (.cells [.slice none 0 0, .slice none 0 0, .slice none 0 0] 3 71 true) = H2 at l2 k2
  (repeat (first | refine qQZ (qDZ _) ?_ | refine qQZ (qEZ _) ?_ | refine qQZ (qFZ _ _) ?_ | refine qQZ (qGZ _ _) ?_ | refine qQZ (by (try with_reducible first | refine gV_F ?_ | refine gV_T ?_); first | exact (hz.mono l2).scn | exact q1Z _ _ | exact q2Z _ _ _ | exact q3Z _ | exact q4Z _ | exact q5Z _ _ _ | exact q6Z _ _ _ | exact q7Z _ _ _ | exact q8Z _ _ _ | exact q9Z _ _ _ | exact q0Z _ _ _ | exact qHZ (by omega) (by omega) | exact qIZ (by omega) (by omega) | exact qAZ _ | exact qBZ _ _ _ | exact qCZ _ _ _) ?_ | refine qQZ (gV_F rfl) ?_ | refine qQZ (gV_T rfl) ?_))
  have hok1 := hok.mono l1
  refine oRC_frame (new_tapes (hG.mono l1) hok1.s hwf.k) l2 fun v K3 H3 hv l3 f3 n3 => ?_
  rcases hv with ⟨_, jn, R, tg, tp, qs, rfl, lR, lab, net, tap, few⟩ | ⟨hno, _, _⟩
  case inr => exact absurd hD.v hno
  have k3 : H3 i3 = some (.cells [.slice none 0 0, .slice none 0 0, .slice none 0 0] 3 71 true) := f3 i3 _ k2 hi3
  have e3 : K3 i3 = none := by
    cases he : K3 i3 with
    | none => rfl
    | some c =>
      rcases n3 i3 (by rw [he]; simp) with h | h
      · exact absurd hi3 h
      · rw [k2] at h; cases h
  have hz3 := hz.mono (lR.trans lab.le)
  refine qQZ (v := qTZ jn) rfl (qQZ (v := .int .i64 0) rfl (qQZ (v := .bool false) rfl (qLZ ?_)))
  (repeat (first | refine qQZ (qDZ _) ?_ | refine qQZ (qEZ _) ?_ | refine qQZ (qFZ _ _) ?_ | refine qQZ (qGZ _ _) ?_ | refine qQZ (by (try with_reducible first | refine gV_F ?_ | refine gV_T ?_); first | exact (hz3.mono l3).qq | exact q1Z _ _ | exact q2Z _ _ _ | exact q3Z _ | exact q4Z _ | exact q5Z _ _ _ | exact q6Z _ _ _ | exact q7Z _ _ _ | exact q8Z _ _ _ | exact q9Z _ _ _ | exact q0Z _ _ _ | exact qHZ (by omega) (by omega) | exact qIZ (by omega) (by omega) | exact qAZ _ | exact qBZ _ _ _ | exact qCZ _ _ _) ?_ | refine qQZ (gV_F rfl) ?_ | refine qQZ (gV_T rfl) ?_))
  refine oRC_frame (deal_spec hD lab net tap few (hok1.q.mono lR)) l3 fun v K4 H4 hv l4 f4 n4 => ?_
  obtain ⟨R', tg', Sv, Rv, Fv, lR', rfl, hdl⟩ := hv
  have k4 : H4 i3 = some (.cells [.slice none 0 0, .slice none 0 0, .slice none 0 0] 3 71 true) := f4 i3 _ k3 e3
  have e4 : K4 i3 = none := by
    cases he : K4 i3 with
    | none => rfl
    | some c =>
      rcases n4 i3 (by rw [he]; simp) with h | h
      · exact absurd e3 h
      · rw [k3] at h; cases h
  have st : p2Z ty71 (qTZ i3) (.agg #[Sv, Rv, Fv]) H4 = some (hins H4 i3 (.cells [Sv, Rv, Fv] 3 71 true)) := by
    obtain ⟨_, _, _, rfl, _⟩ := id hdl.mats
    obtain ⟨_, _, _, rfl, _⟩ := id hdl.rows
    obtain ⟨_, _, _, rfl, _⟩ := id hdl.flags
    simp only [p2Z, qTZ, k4]
    rfl
  refine p8Z st ?_
  have ld : qWZ ty71 (qTZ i3) (hins H4 i3 (.cells [Sv, Rv, Fv] 3 71 true)) = some (.agg #[Sv, Rv, Fv]) := by
    simp only [qWZ, qTZ, hins_self]
    rfl
  rw [ld]
  exact ⟨R', tg', jn, tp, qs, Sv, Rv, Fv, (l1.trans lR).trans lR', rfl, dealt_mono hdl (l4.put e4)⟩
end
end

section
open Go

structure StAt (H : Heap) (i : Nat) (Sv Rv Fv : Value) : Prop where
  blk : H i = some (.cells [Sv, Rv, Fv] 3 71 true)
section
variable {H G : Heap} {i j : Nat} {s : Scn} {q : List (List (List Int))} {cv dv tv qv v Sv Rv Fv : Value} {S R : List (List (List (List Int)))} {F : List (List (List Int))} {n : Nat}
theorem StAt.mono (h : StAt H i Sv Rv Fv) (hl : Le H G) : StAt G i Sv Rv Fv := ⟨hl _ _ h.blk⟩
theorem StAt.lS (h : StAt H i Sv Rv Fv) : qWZ ty69 (.pointer (some ⟨i, 0, none⟩)) H = some Sv := by simp only [qWZ, h.blk]; rfl
theorem StAt.lR (h : StAt H i Sv Rv Fv) : qWZ ty69 (.pointer (some ⟨i, 1, none⟩)) H = some Rv := by simp only [qWZ, h.blk]; rfl
theorem StAt.lF (h : StAt H i Sv Rv Fv) : qWZ ty44 (.pointer (some ⟨i, 2, none⟩)) H = some Fv := by simp only [qWZ, h.blk]; rfl
theorem StAt.all (h : StAt H i Sv Rv Fv) : qWZ ty71 (qTZ i) H = some (.agg #[Sv, Rv, Fv]) := by simp only [qWZ, qTZ, h.blk]; rfl
structure DShape (n : Nat) (q : List (List (List Int))) (S R : List (List (List (List Int)))) (F : List (List (List Int))) : Prop where
  ql : q.length = n
  sl : S.length = n
  rl : R.length = n
  fl : F.length = n
  si : ∀ i (h : i < S.length) (h' : i < q.length), S[i].length = q[i].length
  ri : ∀ i (h : i < R.length), R[i].length = n
  fi : ∀ i (h : i < F.length), F[i].length = n
  rij : ∀ i j (h : i < R.length) (h' : j < R[i].length) (h2 : j < q.length), R[i][j].length = q[j].length
  fij : ∀ i j (h : i < F.length) (h' : j < F[i].length), F[i][j].length = n
theorem shape_ok (hD : DealOk s q) : DShape s.n q (matsA s q) (dRows s q) (dFlags s q) := by
  obtain ⟨hn, hqn, hn7, hn4⟩ := hD.n
  have hRl : (dRows s q).length = s.n := by rw [dRows, rowsA_len, hqn]
  refine ⟨hqn, by rw [matsA_len, hqn], hRl, flagsT_len, fun i h h' => ?_, fun i h => ?_, fun i h => ?_, fun i j h h' h2 => ?_, fun i j h h' => ?_⟩
  · rw [← p6Z (d := []) h, ← p6Z (d := []) h', matsA_at h', mats_len]
  · rw [← p6Z (d := []) h, (hD.rok i (by omega)).len, hqn]
  · have h' : i < s.n := by rwa [dFlags, flagsT_len] at h
    rw [← p6Z (d := []) h, dFlags, flagsT_at h', chunks_len]
  · have := (hD.rok i (by omega)).few j h2
    rw [p6Z h] at this
    rw [p6Z h', p6Z h2] at this
    exact this
  · have h1 : i < s.n := by rwa [dFlags, flagsT_len] at h
    have e : (dFlags s q)[i] = chunks s.n s.n (rsz ((dAll s q).getD i []) (s.n * s.n)) := by rw [← p6Z (d := []) h, dFlags, flagsT_at h1]
    have h2 : j < s.n := by rwa [e, chunks_len] at h'
    have e2 : (dFlags s q)[i][j] = (chunks s.n s.n (rsz ((dAll s q).getD i []) (s.n * s.n)))[j]'(by rw [chunks_len]; exact h2) := by simp only [e]
    rw [e2, chunks_at h2, List.length_take, List.length_drop, rsz_len]
    have : (j + 1) * s.n ≤ s.n * s.n := Nat.mul_le_mul_right _ h2
    rw [Nat.succ_mul] at this
    omega
end
end

section
open Go

section
variable {R H G : Heap} {k : Value → Heap → Prop}
theorem sl_cs {α : Type} {e : El α} {cs : List Value} {xs : List (List α)} {u : Value} {r : List α} (h : Cs (qXZ e) R cs xs) (hu : Sl e R u r) : Cs (qXZ e) R (cs ++ [u]) (xs ++ [r]) := h.snoc ⟨u, rfl, hu⟩
theorem lit_m1 {u : Value} {r : List Int} (hl : Le R H) (h1 : Sl (eInt .u64) R u r) (hk : ∀ v H' N, New H H' N → Sl (qXZ (eInt .u64)) (hun R N) v [r] → k v H') : p3Z ty52 52 1 [((0, 1), u)] H k := by
  have hc : Cs (qXZ (eInt .u64)) R [u] [r] := sl_cs (Cs.nil _ _) h1
  obtain ⟨b1, c1, _, rfl, _⟩ := id h1
  show oNew [.slice b1 r.length c1] 1 52 H _
  intro i hi
  exact hk _ _ _ (New.one hi) (lit_cs hc (by simp) hl hi)
theorem lit_q4 {u1 u2 u3 u4 : Value} {r1 r2 r3 r4 : List (List Int)} (hl : Le R H) (h1 : Sl (qXZ (eInt .u64)) R u1 r1) (h2 : Sl (qXZ (eInt .u64)) R u2 r2) (h3 : Sl (qXZ (eInt .u64)) R u3 r3) (h4 : Sl (qXZ (eInt .u64)) R u4 r4) (hk : ∀ v H' N, New H H' N → Sl (qXZ (qXZ (eInt .u64))) (hun R N) v [r1, r2, r3, r4] → k v H') :
    p3Z ty27 27 4 [((0, 1), u1), ((1, 1), u2), ((2, 1), u3), ((3, 1), u4)] H k := by
  have hc : Cs (qXZ (qXZ (eInt .u64))) R [u1, u2, u3, u4] [r1, r2, r3, r4] := sl_cs (sl_cs (sl_cs (sl_cs (Cs.nil _ _) h1) h2) h3) h4
  obtain ⟨b1, c1, _, rfl, _⟩ := id h1
  obtain ⟨b2, c2, _, rfl, _⟩ := id h2
  obtain ⟨b3, c3, _, rfl, _⟩ := id h3
  obtain ⟨b4, c4, _, rfl, _⟩ := id h4
  show oNew [.slice b1 r1.length c1, .slice b2 r2.length c2, .slice b3 r3.length c3, .slice b4 r4.length c4] 4 27 H _
  intro i hi
  exact hk _ _ _ (New.one hi) (lit_cs hc (by simp) hl hi)
theorem lit4 (a b c d : Int) (hk : ∀ v H' N, New H H' N → Sl (eInt .u64) N v [a, b, c, d] → k v H') : p3Z ty22 22 4 [((0, 1), .int .u64 a), ((1, 1), .int .u64 b), ((2, 1), .int .u64 c), ((3, 1), .int .u64 d)] H k := by
  show oNew (([a, b, c, d] : List Int).map (.int .u64)) 4 22 H _
  intro i hi
  exact hk _ _ _ (New.one hi) (hone_ints [a, b, c, d] (by simp))
theorem st_var {Sv Rv Fv : Value} {S T : List (List (List (List Int)))} {F : List (List (List Int))} {k : Nat → Heap → Prop} (hS : Sl (qXZ eMat) G Sv S) (hR : Sl (qXZ eMat) G Rv T) (hF : Sl (qXZ (qXZ (eInt .u64))) G Fv F) (hk : ∀ i H', Le H H' → StAt H' i Sv Rv Fv → k i H') :
    oNew (Value.cells ty71.zero).toList (Value.cells ty71.zero).toList.length 71 H fun i H1 => oHeap (p2Z ty71 (qTZ i) (.agg #[Sv, Rv, Fv]) H1) fun H2 => k i H2 := by
  obtain ⟨_, _, _, rfl, _⟩ := id hS
  obtain ⟨_, _, _, rfl, _⟩ := id hR
  obtain ⟨_, _, _, rfl, _⟩ := id hF
  show oNew [.slice none 0 0, .slice none 0 0, .slice none 0 0] 3 71 H _
  intro i hi
  refine p8Z (v := hins (hins H i (.cells [.slice none 0 0, .slice none 0 0, .slice none 0 0] 3 71 true)) i _) (by simp only [p2Z, qTZ, hins_self]; rfl) ?_
  rw [hins_hins]
  exact hk i _ (Le.ins _ hi) ⟨hins_self _ _ _⟩
end
def zS : Scn := ⟨31, 4, 1, [], [], [[3], [], [], []]⟩
def zQ : List (List (List Int)) := [[[5, 2]], [], [], []]
theorem zV : ScnV zS := ⟨⟨.inl rfl, by decide, by decide, by decide, by decide, by decide, by decide⟩, ⟨by decide, fun j h => absurd h (by simp [zS])⟩, rfl, fun d hd => (by cases hd), fun l hl x hx => by
  simp only [zS, List.mem_cons, List.not_mem_nil, or_false] at hl
  rcases hl with rfl | rfl | rfl | rfl <;> simp at hx
  subst hx
  decide⟩
theorem zD : DealOk zS zQ := by
  have t4 : ∀ d : Nat, zS.tapes.getD d [] = [3] ∨ zS.tapes.getD d [] = [] := fun d => match d with
    | 0 => .inl rfl
    | 1 => .inr rfl
    | 2 => .inr rfl
    | 3 => .inr rfl
    | (d + 4) => .inr rfl
  refine ⟨zV, by decide, rfl, by decide, by unfold rng; decide, by decide, fun d => ?_, fun d => ?_⟩
  · rcases t4 d with h | h <;> rw [h]
    · unfold rng; decide
    · intro x hx; cases hx
  · rcases t4 d with h | h <;> rw [h] <;> decide
def zRows : List (List Int) := [[7, 5], [9, 8], [11, 11], [13, 14]]
theorem zR : ∀ k, k < 4 → ((dRows zS zQ).getD k []).getD 0 [] = [zRows.getD k []] := by decide +kernel
theorem zF : ∀ k, k < 4 → ((dFlags zS zQ).getD k []).getD 0 [] = [0, 0, 0, 0] := by decide +kernel
theorem awake18_loop {Sv Rv Fv rv : Value} {i : Nat} {H0 : Heap} {S T : List (List (List (List Int)))} {F : List (List (List Int))} (hsh : DShape 4 zQ S T F) (hR : Sl (qXZ eMat) H0 Rv T) (hF : Sl (qXZ (qXZ (eInt .u64))) H0 Fv F) (hst : StAt H0 i Sv Rv Fv) (hr : Sl (qXZ (eInt .u64)) H0 rv zRows)
    (eR : ∀ k, k < 4 → (T.getD k []).getD 0 [] = [zRows.getD k []]) (eF : ∀ k, k < 4 → (F.getD k []).getD 0 [] = [0, 0, 0, 0]) {kn : Heap → Prop} {Q : Ending → Heap → Prop} (hk : ∀ H, Le H0 H → kn H) :
    ∀ (d k : Nat) (H : Heap), 4 - k = d → k ≤ 4 → Le H0 H → L32_3 (qTZ i) rv (.int .i64 k) H kn Q := by
  intro d
  induction d with
  | zero =>
    intro k H hd hk4 l
    apply L32_3_round
    unfold m32_4
    (repeat (first | refine qQZ (qDZ _) ?_ | refine qQZ (qEZ _) ?_ | refine qQZ (qFZ _ _) ?_ | refine qQZ (qGZ _ _) ?_ | refine qQZ (by (try with_reducible first | refine gV_F ?_ | refine gV_T ?_); first | exact q1Z _ _ | exact q2Z _ _ _ | exact q3Z _ | exact q4Z _ | exact q5Z _ _ _ | exact q6Z _ _ _ | exact q7Z _ _ _ | exact q8Z _ _ _ | exact q9Z _ _ _ | exact q0Z _ _ _ | exact qHZ (by omega) (by omega) | exact qIZ (by omega) (by omega) | exact qAZ _ | exact qBZ _ _ _ | exact qCZ _ _ _) ?_ | refine qQZ (gV_F rfl) ?_ | refine qQZ (gV_T rfl) ?_))
    refine qJZ (fun hlt => absurd hlt (by omega)) (fun _ => hk H l)
  | succ d ih =>
    intro k H hd hk4 l
    apply L32_3_round
    unfold m32_4
    (repeat (first | refine qQZ (qDZ _) ?_ | refine qQZ (qEZ _) ?_ | refine qQZ (qFZ _ _) ?_ | refine qQZ (qGZ _ _) ?_ | refine qQZ (by (try with_reducible first | refine gV_F ?_ | refine gV_T ?_); first | exact q1Z _ _ | exact q2Z _ _ _ | exact q3Z _ | exact q4Z _ | exact q5Z _ _ _ | exact q6Z _ _ _ | exact q7Z _ _ _ | exact q8Z _ _ _ | exact q9Z _ _ _ | exact q0Z _ _ _ | exact qHZ (by omega) (by omega) | exact qIZ (by omega) (by omega) | exact qAZ _ | exact qBZ _ _ _ | exact qCZ _ _ _) ?_ | refine qQZ (gV_F rfl) ?_ | refine qQZ (gV_T rfl) ?_))
    refine qJZ (fun hlt => ?_) (fun hlt => absurd (by omega) hlt)
    have hrl := hsh.rl
    have hfl := hsh.fl
    replace hR := hR.mono l
    replace hF := hF.mono l
    replace hst := hst.mono l
    replace hr := hr.mono l
    obtain ⟨p1, u1, a1, a2, a3⟩ := hR.row (i := k) (by omega) (ti := ty44) rfl
    have r1 := hsh.ri k (by omega)
    obtain ⟨p2, u2, b1, b2, b3⟩ := a3.row (i := 0) (by omega) (ti := ty27) rfl
    obtain ⟨p4, u4, d1, d2, d3⟩ := hF.row (i := k) (by omega) (ti := ty27) rfl
    have r3 := hsh.fi k (by omega)
    obtain ⟨p5, u5, e1, e2, e3⟩ := d3.row (i := 0) (by omega) (ti := ty52) rfl
    have x1 : T[k][0] = [zRows.getD k []] := by rw [← eR k (by omega), p6Z (show k < T.length by omega), p6Z (show 0 < T[k].length by omega)]
    have x2 : F[k][0] = [0, 0, 0, 0] := by rw [← eF k (by omega), p6Z (show k < F.length by omega), p6Z (show 0 < F[k].length by omega)]
    rw [x1] at b3
    rw [x2] at e3
    obtain ⟨w, f1, f2⟩ := hr.part (a := k) (b := k + 1) (k1 := .i64) (k2 := .i64) (by decide) (by omega) (by show k + 1 ≤ 4; omega)
    have x3 : (zRows.drop k).take (k + 1 - k) = [zRows.getD k []] := by
      have : ∀ k, k < 4 → (zRows.drop k).take (k + 1 - k) = [zRows.getD k []] := by decide
      exact this k (by omega)
    rw [x3] at f2
    (repeat (first | refine qQZ (qDZ _) ?_ | refine qQZ (qEZ _) ?_ | refine qQZ (qFZ _ _) ?_ | refine qQZ (qGZ _ _) ?_ | refine qQZ (by (try with_reducible first | refine gV_F ?_ | refine gV_T ?_); first | exact hst.lR | exact a1 | exact a2 | exact a3.len | exact q6Z .i64 (T[k].length : Int) 4 | exact q1Z _ _ | exact q2Z _ _ _ | exact q3Z _ | exact q4Z _ | exact q5Z _ _ _ | exact q6Z _ _ _ | exact q7Z _ _ _ | exact q8Z _ _ _ | exact q9Z _ _ _ | exact q0Z _ _ _ | exact qHZ (by omega) (by omega) | exact qIZ (by omega) (by omega) | exact qAZ _ | exact qBZ _ _ _ | exact qCZ _ _ _) ?_ | refine qQZ (gV_F rfl) ?_ | refine qQZ (gV_T rfl) ?_))
    rw [decide_eq_false (fun h => h (by omega))]
    (repeat (first | refine qQZ (qDZ _) ?_ | refine qQZ (qEZ _) ?_ | refine qQZ (qFZ _ _) ?_ | refine qQZ (qGZ _ _) ?_ | refine qQZ (by (try with_reducible first | refine gV_F ?_ | refine gV_T ?_); first | exact hst.lR | exact a1 | exact a2 | exact b1 | exact b2 | exact add_one (n := k) (by omega) | exact f1 | exact q1Z _ _ | exact q2Z _ _ _ | exact q3Z _ | exact q4Z _ | exact q5Z _ _ _ | exact q6Z _ _ _ | exact q7Z _ _ _ | exact q8Z _ _ _ | exact q9Z _ _ _ | exact q0Z _ _ _ | exact qHZ (by omega) (by omega) | exact qIZ (by omega) (by omega) | exact qAZ _ | exact qBZ _ _ _ | exact qCZ _ _ _) ?_ | refine qQZ (gV_F rfl) ?_ | refine qQZ (gV_T rfl) ?_))
    refine gK_FF (oRC_val (sameM_spec b3 f2) ?_)
    (repeat (first | refine qQZ (qDZ _) ?_ | refine qQZ (qEZ _) ?_ | refine qQZ (qFZ _ _) ?_ | refine qQZ (qGZ _ _) ?_ | refine qQZ (by (try with_reducible first | refine gV_F ?_ | refine gV_T ?_); first | exact hst.lF | exact d1 | exact d2 | exact d3.len | exact q6Z .i64 (F[k].length : Int) 4 | exact q1Z _ _ | exact q2Z _ _ _ | exact q3Z _ | exact q4Z _ | exact q5Z _ _ _ | exact q6Z _ _ _ | exact q7Z _ _ _ | exact q8Z _ _ _ | exact q9Z _ _ _ | exact q0Z _ _ _ | exact qHZ (by omega) (by omega) | exact qIZ (by omega) (by omega) | exact qAZ _ | exact qBZ _ _ _ | exact qCZ _ _ _) ?_ | refine qQZ (gV_F rfl) ?_ | refine qQZ (gV_T rfl) ?_))
    rw [decide_eq_false (fun h => h (by omega))]
    (repeat (first | refine qQZ (qDZ _) ?_ | refine qQZ (qEZ _) ?_ | refine qQZ (qFZ _ _) ?_ | refine qQZ (qGZ _ _) ?_ | refine qQZ (by (try with_reducible first | refine gV_F ?_ | refine gV_T ?_); first | exact hst.lF | exact d1 | exact d2 | exact e1 | exact e2 | exact q1Z _ _ | exact q2Z _ _ _ | exact q3Z _ | exact q4Z _ | exact q5Z _ _ _ | exact q6Z _ _ _ | exact q7Z _ _ _ | exact q8Z _ _ _ | exact q9Z _ _ _ | exact q0Z _ _ _ | exact qHZ (by omega) (by omega) | exact qIZ (by omega) (by omega) | exact qAZ _ | exact qBZ _ _ _ | exact qCZ _ _ _) ?_ | refine qQZ (gV_F rfl) ?_ | refine qQZ (gV_T rfl) ?_))
    refine gK_FF (lit4 0 0 0 0 fun v H2 N hN sv => ?_)
    refine gK_FF (oRC_val (sameList_spec (e3.mono hN.1) (sv.mono hN.2.1)) ?_)
    (repeat (first | refine qQZ (qDZ _) ?_ | refine qQZ (qEZ _) ?_ | refine qQZ (qFZ _ _) ?_ | refine qQZ (qGZ _ _) ?_ | refine qQZ (by (try with_reducible first | refine gV_F ?_ | refine gV_T ?_); first | exact q1Z _ _ | exact q2Z _ _ _ | exact q3Z _ | exact q4Z _ | exact q5Z _ _ _ | exact q6Z _ _ _ | exact q7Z _ _ _ | exact q8Z _ _ _ | exact q9Z _ _ _ | exact q0Z _ _ _ | exact qHZ (by omega) (by omega) | exact qIZ (by omega) (by omega) | exact qAZ _ | exact qBZ _ _ _ | exact qCZ _ _ _) ?_ | refine qQZ (gV_F rfl) ?_ | refine qQZ (gV_T rfl) ?_))
    refine qLZ ?_
    (repeat (first | refine qQZ (qDZ _) ?_ | refine qQZ (qEZ _) ?_ | refine qQZ (qFZ _ _) ?_ | refine qQZ (qGZ _ _) ?_ | refine qQZ (by (try with_reducible first | refine gV_F ?_ | refine gV_T ?_); first | exact add_one (n := k) (by omega) | exact q1Z _ _ | exact q2Z _ _ _ | exact q3Z _ | exact q4Z _ | exact q5Z _ _ _ | exact q6Z _ _ _ | exact q7Z _ _ _ | exact q8Z _ _ _ | exact q9Z _ _ _ | exact q0Z _ _ _ | exact qHZ (by omega) (by omega) | exact qIZ (by omega) (by omega) | exact qAZ _ | exact qBZ _ _ _ | exact qCZ _ _ _) ?_ | refine qQZ (gV_F rfl) ?_ | refine qQZ (gV_T rfl) ?_))
    exact ih (k + 1) H2 (by omega) (by omega) (l.trans hN.1)
theorem awake18_spec {H : Heap} (hG : GL H) : qVZ Tryd.prog 32 [] H (Grow (.bool true) H) := by
  apply call32
  unfold m32
  refine qQZ (v := .agg #[.int .u64 31, .int .i64 4, .int .i64 1]) rfl ?_
  refine lit1 3 fun u1 H1 N1 hN1 s1 => ?_
  refine lit4r (hN1.le (Le.refl _)) (s1.mono (hN1.right (Le.refl _))) (Sl.nil _ _) (Sl.nil _ _) (Sl.nil _ _) fun tv H2 N2 hN2 s2 => ?_
  have l2 : Le H H2 := hN1.1.trans hN2.1
  replace s2 := s2.mono (hN2.le (hN1.le (Le.refl H)))
  obtain ⟨tb, tc, _, rfl, _⟩ := id s2
  refine qQZ (v := scnVal zS (.slice none 0 0) (.slice none 0 0) (.slice tb 4 tc)) rfl ?_
  show oNew [.int .u64 0, .int .i64 0, .int .i64 0, .slice none 0 0, .slice none 0 0, .slice none 0 0] 6 29 H2 _
  intro i hi
  refine p8Z (v := hins (hins H2 i (.cells [.int .u64 0, .int .i64 0, .int .i64 0, .slice none 0 0, .slice none 0 0, .slice none 0 0] 6 29 true)) i (.cells [.int .u64 31, .int .i64 4, .int .i64 1, .slice none 0 0, .slice none 0 0, .slice tb 4 tc] 6 29 true)) (by simp only [p2Z, qTZ, hins_self]; rfl) ?_
  rw [hins_hins]
  have l3 : Le H2 (hins H2 i (.cells [.int .u64 31, .int .i64 4, .int .i64 1, .slice none 0 0, .slice none 0 0, .slice tb 4 tc] 6 29 true)) := Le.ins _ hi
  refine qQZ (v := scnVal zS (.slice none 0 0) (.slice none 0 0) (.slice tb 4 tc)) (by simp only [qWZ, qTZ, hins_self]; rfl) ?_
  generalize hins H2 i (.cells [.int .u64 31, .int .i64 4, .int .i64 1, .slice none 0 0, .slice none 0 0, .slice tb 4 tc] 6 29 true) = H3 at l3
  have hok : ScnOk H3 zS (.slice none 0 0) (.slice none 0 0) (.slice tb 4 tc) := ⟨Sl.nil _ _, Sl.nil _ _, s2.mono l3⟩
  refine p9Z (new_tapes (hG.mono (l2.trans l3)) hok (fun d hd => by cases hd)) fun v H4 hv => ?_
  rcases hv with ⟨_, jn, R, tg, tp, qs, rfl, lR, lab, net, tap, few⟩ | ⟨hno, _, _⟩
  case inr => exact absurd zV hno
  refine qQZ (v := qTZ jn) rfl (qQZ (v := .int .i64 0) rfl (qQZ (v := .bool false) rfl (qLZ ?_)))
  refine lit2 5 2 fun u5 H5 N5 hN5 s5 => ?_
  have lab5 := lab.news hN5
  have net5 := net.stay (F := fun _ => True) (by decide) lab5 (qNZ _ _) (Stays.news hN5)
  have tap5 := tap.stay (qNZ R N5) (Stays.news (tg := tg) hN5)
  replace s5 := s5.mono (hN5.right lab.le)
  refine lit_m1 lab5.le s5 fun u6 H6 N6 hN6 s6 => ?_
  have lab6 := lab5.news hN6
  have net6 := net5.stay (F := fun _ => True) (by decide) lab6 (qNZ _ _) (Stays.news hN6)
  have tap6 := tap5.stay (qNZ _ N6) (Stays.news (tg := tg) hN6)
  refine lit_q4 lab6.le s6 (Sl.nil _ _) (Sl.nil _ _) (Sl.nil _ _) fun u7 H7 N7 hN7 s7 => ?_
  have lab7 := lab6.news hN7
  have net7 := net6.stay (F := fun _ => True) (by decide) lab7 (qNZ _ _) (Stays.news hN7)
  have tap7 := tap6.stay (qNZ _ N7) (Stays.news (tg := tg) hN7)
  refine p9Z (deal_spec zD lab7 net7 tap7 few s7) fun v H8 hv => ?_
  obtain ⟨R8, tg8, Sv, Rv, Fv, l8, rfl, hd8⟩ := hv
  have lH : Le H R8 := (((((l2.trans l3).trans lR).trans (qNZ _ _)).trans (qNZ _ _)).trans (qNZ _ _)).trans l8
  refine st_var hd8.mats hd8.rows hd8.flags fun i9 H9 l9 hst => ?_
  have hd9 := dealt_mono hd8 l9
  obtain ⟨F0, _, hn9⟩ := id hd9.net
  refine oRC_val (rounds_spec hn9) ?_
  have hsh := shape_ok zD
  have eR := zR
  have eF := zF
  have hS := hd9.mats.mono hd9.lab.le
  have hR := hd9.rows.mono hd9.lab.le
  have hF := hd9.flags.mono hd9.lab.le
  have lH9 := lH.trans hd9.lab.le
  replace hsh : DShape 4 zQ (matsA zS zQ) (dRows zS zQ) (dFlags zS zQ) := hsh
  generalize matsA zS zQ = S at hsh hS
  generalize dRows zS zQ = T at hsh hR eR
  generalize dFlags zS zQ = F at hsh hF eF
  have hsl := hsh.sl
  have hrl := hsh.rl
  have hfl := hsh.fl
  refine qQZ (v := .bool false) rfl ?_
  (repeat (first | refine qQZ (qDZ _) ?_ | refine qQZ (qEZ _) ?_ | refine qQZ (qFZ _ _) ?_ | refine qQZ (qGZ _ _) ?_ | refine qQZ (by (try with_reducible first | refine gV_F ?_ | refine gV_T ?_); first | exact hst.lR | exact hR.len | exact q6Z .i64 (T.length : Int) 4 | exact q1Z _ _ | exact q2Z _ _ _ | exact q3Z _ | exact q4Z _ | exact q5Z _ _ _ | exact q6Z _ _ _ | exact q7Z _ _ _ | exact q8Z _ _ _ | exact q9Z _ _ _ | exact q0Z _ _ _ | exact qHZ (by omega) (by omega) | exact qIZ (by omega) (by omega) | exact qAZ _ | exact qBZ _ _ _ | exact qCZ _ _ _) ?_ | refine qQZ (gV_F rfl) ?_ | refine qQZ (gV_T rfl) ?_))
  rw [decide_eq_false (fun h => h (by omega))]
  (repeat (first | refine qQZ (qDZ _) ?_ | refine qQZ (qEZ _) ?_ | refine qQZ (qFZ _ _) ?_ | refine qQZ (qGZ _ _) ?_ | refine qQZ (by (try with_reducible first | refine gV_F ?_ | refine gV_T ?_); first | exact hst.lF | exact hF.len | exact q6Z .i64 (F.length : Int) 4 | exact q1Z _ _ | exact q2Z _ _ _ | exact q3Z _ | exact q4Z _ | exact q5Z _ _ _ | exact q6Z _ _ _ | exact q7Z _ _ _ | exact q8Z _ _ _ | exact q9Z _ _ _ | exact q0Z _ _ _ | exact qHZ (by omega) (by omega) | exact qIZ (by omega) (by omega) | exact qAZ _ | exact qBZ _ _ _ | exact qCZ _ _ _) ?_ | refine qQZ (gV_F rfl) ?_ | refine qQZ (gV_T rfl) ?_))
  rw [decide_eq_false (fun h => h (by omega))]
  (repeat (first | refine qQZ (qDZ _) ?_ | refine qQZ (qEZ _) ?_ | refine qQZ (qFZ _ _) ?_ | refine qQZ (qGZ _ _) ?_ | refine qQZ (by (try with_reducible first | refine gV_F ?_ | refine gV_T ?_); first | exact hst.lS | exact hS.len | exact q6Z .i64 (S.length : Int) 4 | exact q1Z _ _ | exact q2Z _ _ _ | exact q3Z _ | exact q4Z _ | exact q5Z _ _ _ | exact q6Z _ _ _ | exact q7Z _ _ _ | exact q8Z _ _ _ | exact q9Z _ _ _ | exact q0Z _ _ _ | exact qHZ (by omega) (by omega) | exact qIZ (by omega) (by omega) | exact qAZ _ | exact qBZ _ _ _ | exact qCZ _ _ _) ?_ | refine qQZ (gV_F rfl) ?_ | refine qQZ (gV_T rfl) ?_))
  rw [decide_eq_false (fun h => h (by omega))]
  (repeat (first | refine qQZ (qDZ _) ?_ | refine qQZ (qEZ _) ?_ | refine qQZ (qFZ _ _) ?_ | refine qQZ (qGZ _ _) ?_ | refine qQZ (by (try with_reducible first | refine gV_F ?_ | refine gV_T ?_); first | exact q1Z _ _ | exact q2Z _ _ _ | exact q3Z _ | exact q4Z _ | exact q5Z _ _ _ | exact q6Z _ _ _ | exact q7Z _ _ _ | exact q8Z _ _ _ | exact q9Z _ _ _ | exact q0Z _ _ _ | exact qHZ (by omega) (by omega) | exact qIZ (by omega) (by omega) | exact qAZ _ | exact qBZ _ _ _ | exact qCZ _ _ _) ?_ | refine qQZ (gV_F rfl) ?_ | refine qQZ (gV_T rfl) ?_))
  refine qLZ ?_
  refine lit2 7 5 fun v1 K1 M1 h1 t1 => ?_
  refine lit2 9 8 fun v2 K2 M2 h2 t2 => ?_
  refine lit2 11 11 fun v3 K3 M3 h3 t3 => ?_
  refine lit2 13 14 fun v4 K4 M4 h4 t4 => ?_
  replace t1 := t1.mono (((h1.2.1.trans h2.1).trans h3.1).trans h4.1)
  replace t2 := t2.mono ((h2.2.1.trans h3.1).trans h4.1)
  replace t3 := t3.mono (h3.2.1.trans h4.1)
  replace t4 := t4.mono h4.2.1
  have l4 := ((h1.1.trans h2.1).trans h3.1).trans h4.1
  refine lit4r (Le.refl _) t1 t2 t3 t4 fun rv K5 M5 h5 t5 => ?_
  replace t5 := t5.mono (h5.le (Le.refl _))
  have l5 := l4.trans h5.1
  unfold m32_2
  exact awake18_loop hsh (hR.mono l5) (hF.mono l5) (hst.mono l5) t5 eR eF (fun K lK => ⟨rfl, (lH9.trans l5).trans lK⟩) _ 0 K5 rfl (by omega) (Le.refl _)
end

section
open Go

section
variable {s : Scn} {q : List (List (List Int))} {i j k c : Nat}
theorem mat_at (h : DealOk s q) (hk : k < s.n) (hc : c < (q.getD k []).length) : ∃ first rest, ((matsA s q).getD k []).getD c [] = newM first rest ∧ newOk first rest ∧ rng s.P first ∧ rng s.P rest := by
  obtain ⟨hn, hqn, _, _⟩ := h.n
  have hkq : k < q.length := by omega
  have hm := h.newOk hkq hc
  refine ⟨_, _, ?_, hm, ?_, ?_⟩
  · rw [matsA_at hkq, p6Z (by rw [mats_len]; exact hc), mats_at hc]
  · rw [p6Z hc]
    exact (h.qw k hkq _ (List.getElem_mem hc)).2
  · exact rng_take (rng_drop (h.tr k) _) _
theorem map_getD {α β : Type} {f : α → β} {l : List α} {c : Nat} {d : α} {e : β} (h : c < l.length) : (l.map f).getD c e = f (l.getD c d) := by
  rw [p6Z (by simpa using h), List.getElem_map, p6Z h]
theorem row_honest (h : DealOk s q) (hk : k < s.n) (hi : i < s.n) (hc : c < (q.getD k []).length) (h0 : (k : Int) + 1 ∉ s.bad) : (((dRows s q).getD i []).getD k []).getD c [] = rowL s.P ((i : Int) + 1) (((matsA s q).getD k []).getD c []) := by
  obtain ⟨hn, hqn, hn7, hn4⟩ := h.n
  have hl : ((matsA s q).getD k []).length = (q.getD k []).length := by rw [matsA_at (by omega), mats_len]
  rw [rows_honest h hk hi h0, map_getD (d := []) (by omega)]
end
structure LAt (H : Heap) (i1 i3 i6 : Nat) (s : Scn) (q : List (List (List Int))) (cv dv tv qv Sv Rv Fv : Value) : Prop where
  z : ZAt H i1 s cv dv tv qv
  st : StAt H i3 Sv Rv Fv
  sc : SAt H i6 s cv dv tv
  ok : DzOk H s q cv dv tv qv
  S : Sl (qXZ eMat) H Sv (matsA s q)
  R : Sl (qXZ eMat) H Rv (dRows s q)
  F : Sl (qXZ (qXZ (eInt .u64))) H Fv (dFlags s q)
def Yes : Ending → Heap → Prop := Ret fun v _ => v = .bool true
section
variable {H H0 G : Heap} {i1 i3 i6 : Nat} {s : Scn} {q : List (List (List Int))} {cv dv tv qv Sv Rv Fv : Value} {k i : Nat}
theorem LAt.mono (h : LAt H i1 i3 i6 s q cv dv tv qv Sv Rv Fv) (hl : Le H G) : LAt G i1 i3 i6 s q cv dv tv qv Sv Rv Fv := ⟨h.z.mono hl, h.st.mono hl, h.sc.mono hl, h.ok.mono hl, h.S.mono hl, h.R.mono hl, h.F.mono hl⟩
theorem scn_var {k : Nat → Heap → Prop} (hok : ScnOk G s cv dv tv) (hk : ∀ i H', Le H H' → SAt H' i s cv dv tv → k i H') :
    oNew (Value.cells ty29.zero).toList (Value.cells ty29.zero).toList.length 29 H fun i H1 => oHeap (p2Z ty29 (qTZ i) (scnVal s cv dv tv) H1) fun H2 => k i H2 := by
  obtain ⟨_, _, _, rfl, _⟩ := id hok.bad
  obtain ⟨_, _, _, rfl, _⟩ := id hok.devs
  obtain ⟨_, _, _, rfl, _⟩ := id hok.tapes
  show oNew [.int .u64 0, .int .i64 0, .int .i64 0, .slice none 0 0, .slice none 0 0, .slice none 0 0] 6 29 H _
  intro i hi
  refine p8Z (v := hins (hins H i (.cells [.int .u64 0, .int .i64 0, .int .i64 0, .slice none 0 0, .slice none 0 0, .slice none 0 0] 6 29 true)) i _) (by simp only [p2Z, qTZ, hins_self]; rfl) ?_
  rw [hins_hins]
  exact hk i _ (Le.ins _ hi) ⟨hins_self _ _ _⟩
end
end

section
open Go

def Scn.re (s : Scn) (tp : List (List Int)) : Scn := { s with tapes := tp }
theorem rowTo_re {s : Scn} {tp : List (List Int)} {d : Dev} {said : List Int} {row : List (List Int)} : ∀ j, rowTo (s.re tp) d said row j = rowTo s d said row j
  | 0 => rfl
  | j + 1 => by
    simp only [rowTo, rowTo_re j]
    rfl
theorem applyM_re {s : Scn} {tp : List (List Int)} {rd : Int} {out : List (List (List Int))} {i : Nat} : applyM (s.re tp) rd out i = applyM s rd out i := by
  have e : stepM (s.re tp) rd out = stepM s rd out := by
    funext mat d
    simp only [stepM, rowTo_re]
    rfl
  unfold applyM
  rw [e]
  rfl
theorem applyB_re {s : Scn} {tp : List (List Int)} {rd : Int} {out : List (List Int)} {i : Nat} : applyB (s.re tp) rd out i = applyB s rd out i := rfl
theorem getD_ge {α : Type} {l : List α} {k : Nat} {d : α} (h : l.length ≤ k) : l.getD k d = d := by simp [List.getD_eq_getElem?_getD, h]
structure Seen (bad : List Int) (m m' : List (List (List Int))) : Prop where
  len : m'.length = m.length
  row : ∀ a : Nat, (a : Int) + 1 ∈ bad → m'.getD a [] = m.getD a []
  ent : ∀ a b : Nat, (b : Int) + 1 ∈ bad → (m'.getD a []).getD b [] = (m.getD a []).getD b []
theorem getD_set2 {α : Type} (l : List α) (i j : Nat) (x d : α) : (l.set i x).getD j d = if i = j ∧ i < l.length then x else l.getD j d := by
  by_cases hj : j < l.length
  · rw [getD_set l i j x d hj]
    by_cases e : i = j
    · rw [if_pos e, if_pos ⟨e, by omega⟩]
    · rw [if_neg e, if_neg (fun h => e h.1)]
  · rw [getD_ge (by simpa using Nat.le_of_not_lt hj), if_neg (fun h => hj (by omega)), getD_ge (by omega)]
theorem stepM_seen {s : Scn} {rd : Int} {out out' m m' : List (List (List Int))} {d : Dev} (hf : 1 ≤ d.fr) (ho : Seen s.bad out out') (h : Seen s.bad m m') : Seen s.bad (stepM s rd out m d) (stepM s rd out' m' d) := by
  unfold stepM
  by_cases c : d.rd = rd ∧ d.fr ∈ s.bad
  · rw [if_pos c, if_pos c]
    have e0 : (((d.fr - 1).toNat : Nat) : Int) + 1 ∈ s.bad := by
      rw [show (((d.fr - 1).toNat : Nat) : Int) + 1 = d.fr by omega]
      exact c.2
    have e1 : saidM out' d = saidM out d := ho.ent _ _ e0
    rw [e1, h.row _ e0]
    refine ⟨by simp [h.len], fun a ha => ?_, fun a b hb => ?_⟩
    · rw [getD_set2, getD_set2, h.len, h.row a ha]
    · rw [getD_set2, getD_set2, h.len]
      split
      · rfl
      · exact h.ent a b hb
  · rw [if_neg c, if_neg c]
    exact h
theorem applyM_seen {s : Scn} {rd : Int} {out out' : List (List (List Int))} (hd : ∀ d ∈ s.devs, 1 ≤ d.fr) (h : Seen s.bad out out') : ∀ i, i ≤ s.devs.length → Seen s.bad (applyM s rd out i) (applyM s rd out' i)
  | 0, _ => h
  | i + 1, hi => by
    rw [applyM_succ (by omega), applyM_succ (by omega)]
    exact stepM_seen (hd _ (List.getElem_mem _)) h (applyM_seen hd h i (by omega))
structure SameV (bad : List Int) (v v' : List (List Ev)) : Prop where
  len : v'.length = v.length
  at_ : ∀ j : Nat, (j : Int) + 1 ∈ bad → v'.getD j [] = v.getD j []
theorem noteV_same {bad : List Int} {v v' : List (List Ev)} {rd : Int} {who fr : Nat} {l l' : List Int} (h : SameV bad v v') (hl : (who : Int) + 1 ∈ bad → l' = l) : SameV bad (noteV rd v who fr l) (noteV rd v' who fr l') := by
  refine ⟨by rw [noteV_len, noteV_len, h.len], fun j hj => ?_⟩
  by_cases e : who = j
  · subst e
    rw [hl hj]
    unfold noteV
    split
    · rw [getD_set2, getD_set2, h.len, h.at_ _ hj]
    · exact h.at_ _ hj
  · have key : ∀ (w : List (List Ev)) (x : List Int), (noteV rd w who fr x).getD j [] = w.getD j [] := fun w x => by
      unfold noteV
      split
      · rw [getD_set2, if_neg (fun h => e h.1)]
      · rfl
    rw [key, key]
    exact h.at_ j hj
theorem rowV_same {bad : List Int} {v v' : List (List Ev)} {rd : Int} {m m' : List (List (List Int))} {j : Nat} (hm : Seen bad m m') (h : SameV bad v v') : ∀ i, SameV bad (rowV rd m j v i) (rowV rd m' j v' i)
  | 0 => h
  | i + 1 => noteV_same (rowV_same hm h i) fun hb => hm.ent i j hb
theorem sendV_same {bad : List Int} {v v' : List (List Ev)} {rd : Int} {m m' : List (List (List Int))} {n : Nat} (hm : Seen bad m m') (h : SameV bad v v') : ∀ j, SameV bad (sendV rd m n v j) (sendV rd m' n v' j)
  | 0 => h
  | j + 1 => rowV_same hm (sendV_same hm h j) n
theorem castRow_same {bad : List Int} {v v' : List (List Ev)} {rd : Int} {m : List (List Int)} {i : Nat} (h : SameV bad v v') : ∀ j, SameV bad (castRow rd m i v j) (castRow rd m i v' j)
  | 0 => h
  | j + 1 => noteV_same (castRow_same h j) fun _ => rfl
theorem castV_same {bad : List Int} {v v' : List (List Ev)} {rd : Int} {m : List (List Int)} {n : Nat} (h : SameV bad v v') : ∀ i, SameV bad (castV rd m n v i) (castV rd m n v' i)
  | 0 => h
  | i + 1 => castRow_same (castV_same h i) n
structure Twin (s : Scn) (tp : List (List Int)) (q q' : List (List (List Int))) (d0 : Nat) : Prop where
  D : DealOk s q
  D' : DealOk (s.re tp) q'
  hd : d0 < s.n
  hon : (d0 : Int) + 1 ∉ s.bad
  len : ∀ e, (q'.getD e []).length = (q.getD e []).length
  other : ∀ e, e ≠ d0 → (matsA (s.re tp) q').getD e [] = (matsA s q).getD e []
  low : ∀ i : Nat, (i : Int) + 1 ∈ s.bad → ∀ c, c < (q.getD d0 []).length → rowL s.P ((i : Int) + 1) (((matsA (s.re tp) q').getD d0 []).getD c []) = rowL s.P ((i : Int) + 1) (((matsA s q).getD d0 []).getD c [])
section
variable {s : Scn} {tp : List (List Int)} {q q' : List (List (List Int))} {d0 i j e c : Nat}
theorem Twin.ql (h : Twin s tp q q' d0) : q'.length = q.length := by
  obtain ⟨_, a, _⟩ := h.D.n
  obtain ⟨_, b, _⟩ := h.D'.n
  exact b.trans a.symm
theorem mats_cnt (h : DealOk s q) (hk : e < s.n) : ((matsA s q).getD e []).length = (q.getD e []).length := by
  obtain ⟨hn, hqn, _⟩ := h.n
  rw [matsA_at (by omega), mats_len]
theorem Twin.rowsTo (h : Twin s tp q q' d0) (hi : (i : Int) + 1 ∈ s.bad) : rowsTo s.P ((matsA (s.re tp) q').getD e []) ((i : Int) + 1) = rowsTo s.P ((matsA s q).getD e []) ((i : Int) + 1) := by
  by_cases he : e = d0
  · subst he
    have l1 : ((matsA s q).getD e []).length = (q.getD e []).length := mats_cnt h.D h.hd
    have l2 : ((matsA (s.re tp) q').getD e []).length = (q.getD e []).length := (mats_cnt h.D' h.hd).trans (h.len e)
    unfold SL.rowsTo
    congr 1
    refine List.ext_getElem (by rw [List.length_map, List.length_map]; omega) fun c h1 h2 => ?_
    rw [List.length_map] at h1 h2
    have := h.low i hi c (by omega)
    rw [p6Z h1, p6Z h2] at this
    rw [List.getElem_map, List.getElem_map]
    exact this
  · rw [h.other e he]
theorem Twin.out0 (h : Twin s tp q q' d0) : Seen s.bad (dOut0 s q) (dOut0 (s.re tp) q') := by
  refine ⟨by show (outA _ s.n _).length = (outA _ s.n _).length; rw [outA_len, outA_len], fun a ha => ?_, fun a b hb => ?_⟩
  · show (outA s.P s.n _).getD a [] = (outA s.P s.n _).getD a []
    by_cases hl : a < s.n
    · rw [outA_at hl, outA_at hl, h.other a (fun e => by subst e; exact h.hon ha)]
    · rw [getD_ge (by rw [outA_len]; omega), getD_ge (by rw [outA_len]; omega)]
  · show ((outA s.P s.n _).getD a []).getD b [] = ((outA s.P s.n _).getD a []).getD b []
    by_cases hl : a < s.n
    · rw [outA_at hl, outA_at hl]
      by_cases hb2 : b < s.n
      · rw [rangeMap_at hb2, rangeMap_at hb2, h.rowsTo hb]
      · rw [getD_ge (by simp; omega), getD_ge (by simp; omega)]
    · rw [getD_ge (l := outA s.P s.n _) (by rw [outA_len]; omega), getD_ge (l := outA s.P s.n _) (by rw [outA_len]; omega)]
theorem Twin.said0 (h : Twin s tp q q' d0) : Seen s.bad (applyM s 0 (dOut0 s q) s.devs.length) (applyM (s.re tp) 0 (dOut0 (s.re tp) q') (s.re tp).devs.length) := by
  rw [applyM_re]
  exact applyM_seen h.D.fr h.out0 _ (Nat.le_refl _)
theorem inTo_seen {bad : List Int} {m m' : List (List (List Int))} {n : Nat} (h : Seen bad m m') (hi : (i : Int) + 1 ∈ bad) : inTo m' n i = inTo m n i := by
  unfold inTo
  exact List.map_congr_left fun a _ => h.ent a i hi
theorem rowsIn_len_eq {w : Nat} (hl : q'.length = q.length) (h : ∀ e, (q'.getD e []).length = (q.getD e []).length) (hd : List (List Int)) : rowsIn w q' hd = rowsIn w q hd := by
  simp only [rowsIn, hl, h]
theorem Twin.rows_bad (h : Twin s tp q q' d0) (hi : i < s.n) (hb : (i : Int) + 1 ∈ s.bad) : (dRows (s.re tp) q').getD i [] = (dRows s q).getD i [] := by
  obtain ⟨_, hqn, _⟩ := h.D.n
  have hq := h.ql
  show (rowsA s.w q' (dIn0 (s.re tp) q')).getD i [] = (rowsA s.w q (dIn0 s q)).getD i []
  rw [rowsA_at (by omega), rowsA_at (by omega), rowsIn_len_eq hq h.len]
  congr 1
  show (recv _ s.n).getD i [] = (recv _ s.n).getD i []
  rw [recv_at hi, recv_at hi, inTo_seen h.said0 hb]
theorem Twin.rows_other (h : Twin s tp q q' d0) (hi : i < s.n) (he : e < s.n) (hne : e ≠ d0) : ((dRows (s.re tp) q').getD i []).getD e [] = ((dRows s q).getD i []).getD e [] := by
  obtain ⟨_, hqn, _⟩ := h.D.n
  have hq := h.ql
  show ((rowsA s.w q' (dIn0 (s.re tp) q')).getD i []).getD e [] = ((rowsA s.w q (dIn0 s q)).getD i []).getD e []
  rw [rowsA_at (by omega), rowsA_at (by omega), rowsIn_len_eq hq h.len, p6Z (l := rowsIn _ _ _) (by rw [rowsIn_len]; omega), p6Z (l := rowsIn _ _ _) (by rw [rowsIn_len]; omega), rowsIn_at (by omega), rowsIn_at (by omega)]
  congr 2
  show ((recv _ s.n).getD i []).getD e [] = ((recv _ s.n).getD i []).getD e []
  rw [recv_at hi, recv_at hi, inTo_at he, inTo_at he]
  by_cases hb : (e : Int) + 1 ∈ s.bad
  · rw [h.said0.row e hb]
  · rw [applyM_honest h.D.fr hb _ (Nat.le_refl _), applyM_honest h.D'.fr hb _ (Nat.le_refl _)]
    show ((outA s.P s.n _).getD e []).getD i [] = ((outA s.P s.n _).getD e []).getD i []
    rw [outA_at he, outA_at he, h.other e hne]
theorem row_sym (h : DealOk s q) (hd : d0 < s.n) (hon : (d0 : Int) + 1 ∉ s.bad) (hi : i < s.n) (hc : c < (q.getD d0 []).length) (y : Int) : evalP s.P y ((((dRows s q).getD i []).getD d0 []).getD c []) = evalP s.P ((i : Int) + 1) (rowL s.P y (((matsA s q).getD d0 []).getD c [])) := by
  have hp := h.pos
  rw [row_honest h hd hi hc hon]
  obtain ⟨f, r, e, a, b, d⟩ := mat_at h hd hc
  rw [e]
  exact sym_rows (by omega) a b d _ _
theorem Twin.val (h : Twin s tp q q' d0) (hi : i < s.n) (hj : j < s.n) (he : e < s.n) (hc : c < (q.getD e []).length) (hx : e ≠ d0 ∨ (i : Int) + 1 ∈ s.bad ∨ (j : Int) + 1 ∈ s.bad) :
    evalP s.P ((j : Int) + 1) ((((dRows (s.re tp) q').getD i []).getD e []).getD c []) = evalP s.P ((j : Int) + 1) ((((dRows s q).getD i []).getD e []).getD c []) := by
  by_cases hb : (i : Int) + 1 ∈ s.bad
  · rw [h.rows_bad hi hb]
  by_cases hne : e = d0
  · subst hne
    have hjb : (j : Int) + 1 ∈ s.bad := by
      rcases hx with h | h | h
      · exact absurd rfl h
      · exact absurd h hb
      · exact h
    have e1 := row_sym h.D he h.hon hi hc ((j : Int) + 1)
    have e2 : evalP s.P ((j : Int) + 1) ((((dRows (s.re tp) q').getD i []).getD e []).getD c []) = evalP s.P ((i : Int) + 1) (rowL s.P ((j : Int) + 1) (((matsA (s.re tp) q').getD e []).getD c [])) := row_sym h.D' he h.hon hi (by rw [h.len]; exact hc) ((j : Int) + 1)
    rw [e1, e2, h.low j hjb c hc]
  · rw [h.rows_other hi he hne]
theorem Twin.vals (h : Twin s tp q q' d0) (hi : i < s.n) (hj : j < s.n) (hx : (i : Int) + 1 ∈ s.bad ∨ (j : Int) + 1 ∈ s.bad) : valsOf s.P ((dRows (s.re tp) q').getD i []) ((j : Int) + 1) = valsOf s.P ((dRows s q).getD i []) ((j : Int) + 1) := by
  have ho := h.D.rok i hi
  have ho' := h.D'.rok i hi
  obtain ⟨_, hqn, _⟩ := h.D.n
  have hq := h.ql
  have l1 := ho.len
  have l2 : ((dRows (s.re tp) q').getD i []).length = q'.length := ho'.len
  unfold valsOf
  congr 1
  refine List.ext_getElem (by rw [List.length_map, List.length_map]; omega) fun e h1 h2 => ?_
  rw [List.length_map] at h1 h2
  have he : e < q.length := by omega
  have f1 := ho.few e he
  have f2 : (((dRows (s.re tp) q').getD i []).getD e []).length = (q'.getD e []).length := ho'.few e (by omega)
  rw [h.len e] at f2
  rw [p6Z h2] at f1
  rw [p6Z h1] at f2
  rw [List.getElem_map, List.getElem_map]
  refine List.ext_getElem ((List.length_map _).trans ((f2.trans f1.symm).trans (List.length_map _).symm)) fun c g1 g2 => ?_
  rw [List.length_map] at g1 g2
  have hc : c < (q.getD e []).length := by omega
  have := h.val hi hj (by omega) hc (.inr hx)
  rw [List.getElem_map, List.getElem_map]
  rw [p6Z (l := (dRows (s.re tp) q').getD i []) h1, p6Z (l := (dRows s q).getD i []) h2, p6Z g1, p6Z g2] at this
  exact this
theorem Twin.out1 (h : Twin s tp q q' d0) : Seen s.bad (dOut1 s q) (dOut1 (s.re tp) q') := by
  refine ⟨by show (outB _ s.n _).length = (outB _ s.n _).length; rw [outB_len, outB_len], fun a ha => ?_, fun a b hb => ?_⟩
  · show (outB s.P s.n _).getD a [] = (outB s.P s.n _).getD a []
    by_cases hl : a < s.n
    · rw [outB_at hl, outB_at hl, h.rows_bad hl ha]
    · rw [getD_ge (by rw [outB_len]; omega), getD_ge (by rw [outB_len]; omega)]
  · show ((outB s.P s.n _).getD a []).getD b [] = ((outB s.P s.n _).getD a []).getD b []
    by_cases hl : a < s.n
    · rw [outB_at hl, outB_at hl]
      by_cases hb2 : b < s.n
      · rw [rangeMap_at hb2, rangeMap_at hb2, h.vals hl hb2 (.inr hb)]
      · rw [getD_ge (by simp; omega), getD_ge (by simp; omega)]
    · rw [getD_ge (l := outB s.P s.n _) (by rw [outB_len]; omega), getD_ge (l := outB s.P s.n _) (by rw [outB_len]; omega)]
theorem Twin.said1 (h : Twin s tp q q' d0) : Seen s.bad (applyM s 1 (dOut1 s q) s.devs.length) (applyM (s.re tp) 1 (dOut1 (s.re tp) q') (s.re tp).devs.length) := by
  rw [applyM_re]
  exact applyM_seen h.D.fr h.out1 _ (Nat.le_refl _)
theorem Twin.offs (h : Twin s tp q q' d0) (e : Nat) : offs q' e = offs q e := by
  have hq := h.ql
  have hm : q'.map List.length = q.map List.length := List.ext_getElem (by simp [hq]) fun i h1 h2 => by
    have := h.len i
    rw [p6Z (by simpa using h1), p6Z (by simpa using h2)] at this
    simpa using this
  unfold SL.offs
  rw [List.map_take, List.map_take, hm]
theorem heard_honest (h : DealOk s q) (hi : i < s.n) (hj : j < s.n) (h2 : (j : Int) + 1 ∉ s.bad) : ((dIn1 s q).getD i []).getD j [] = valsOf s.P ((dRows s q).getD j []) ((i : Int) + 1) := by
  rw [dIn1, recv_at hi, inTo_at hj, applyM_honest h.fr h2 _ (Nat.le_refl _), dOut1, outB_at hj, rangeMap_at hi]
theorem differ_hon (h : DealOk s q) (hd : d0 < s.n) (hon : (d0 : Int) + 1 ∉ s.bad) (hi : i < s.n) (hj : j < s.n) (h2 : (j : Int) + 1 ∉ s.bad) :
    ¬ (differ (valsOf s.P ((dRows s q).getD i []) ((j : Int) + 1)) (rsz (((dIn1 s q).getD i []).getD j []) (valsOf s.P ((dRows s q).getD i []) ((j : Int) + 1)).length) (SL.offs q d0) (q.getD d0 []).length = true) := by
  obtain ⟨_, hqn, _⟩ := h.n
  have hR := h.rok
  have hp := h.pos
  rw [heard_honest h hi hj h2, rsz_same (by rw [(hR j hj).vals, (hR i hi).vals]), differ_iff]
  rintro ⟨c, hc, hne⟩
  rw [valsOf_at (hR j hj) (by omega) hc, valsOf_at (hR i hi) (by omega) hc] at hne
  rw [row_sym h hd hon hi hc, row_honest h hd hj hc hon] at hne
  exact hne rfl
theorem Twin.differ (h : Twin s tp q q' d0) (hi : i < s.n) (hj : j < s.n) (he : e < s.n) :
    differ (valsOf s.P ((dRows (s.re tp) q').getD i []) ((j : Int) + 1)) (rsz (((dIn1 (s.re tp) q').getD i []).getD j []) (valsOf s.P ((dRows (s.re tp) q').getD i []) ((j : Int) + 1)).length) (SL.offs q' e) (q'.getD e []).length = true ↔
    differ (valsOf s.P ((dRows s q).getD i []) ((j : Int) + 1)) (rsz (((dIn1 s q).getD i []).getD j []) (valsOf s.P ((dRows s q).getD i []) ((j : Int) + 1)).length) (SL.offs q e) (q.getD e []).length = true := by
  obtain ⟨_, hqn, _⟩ := h.D.n
  have hq := h.ql
  have hR := h.D.rok
  have hR' : ∀ a, a < s.n → RwOk s.P q' ((dRows (s.re tp) q').getD a []) := h.D'.rok
  by_cases hx : e ≠ d0 ∨ (i : Int) + 1 ∈ s.bad ∨ (j : Int) + 1 ∈ s.bad
  case neg =>
    have he0 : e = d0 := Classical.byContradiction fun h => hx (.inl h)
    have hjn : (j : Int) + 1 ∉ s.bad := fun h => hx (.inr (.inr h))
    subst he0
    have n1 := differ_hon h.D he h.hon hi hj hjn
    have n2 := differ_hon (s := s.re tp) (q := q') h.D' he h.hon hi hj hjn
    exact iff_of_false n2 n1
  case pos =>
    rw [differ_iff, differ_iff, h.offs e, h.len e]
    have hlen : (valsOf s.P ((dRows (s.re tp) q').getD i []) ((j : Int) + 1)).length = (valsOf s.P ((dRows s q).getD i []) ((j : Int) + 1)).length := by
      rw [(hR' i hi).vals, (hR i hi).vals, hq, h.offs]
    have own : ∀ c, c < (q.getD e []).length → (valsOf s.P ((dRows (s.re tp) q').getD i []) ((j : Int) + 1)).getD (SL.offs q e + c) 0 = (valsOf s.P ((dRows s q).getD i []) ((j : Int) + 1)).getD (SL.offs q e + c) 0 := fun c hc => by
      rw [valsOf_at (hR i hi) (by omega) hc, ← h.offs e, valsOf_at (hR' i hi) (by omega) (by rw [h.len]; exact hc), h.val hi hj he hc hx]
    have hrec : ∀ c, c < (q.getD e []).length → (rsz (((dIn1 (s.re tp) q').getD i []).getD j []) (valsOf s.P ((dRows (s.re tp) q').getD i []) ((j : Int) + 1)).length).getD (SL.offs q e + c) 0 = (rsz (((dIn1 s q).getD i []).getD j []) (valsOf s.P ((dRows s q).getD i []) ((j : Int) + 1)).length).getD (SL.offs q e + c) 0 := fun c hc => by
      by_cases hb : (j : Int) + 1 ∈ s.bad
      · have e1 : ((dIn1 (s.re tp) q').getD i []).getD j [] = ((dIn1 s q).getD i []).getD j [] := by
          show ((recv _ s.n).getD i []).getD j [] = ((recv _ s.n).getD i []).getD j []
          rw [recv_at hi, recv_at hi, inTo_at hj, inTo_at hj, h.said1.row j hb]
        rw [e1, hlen]
      · have e1 := heard_honest h.D hi hj hb
        have e2 : ((dIn1 (s.re tp) q').getD i []).getD j [] = valsOf s.P ((dRows (s.re tp) q').getD j []) ((i : Int) + 1) := heard_honest h.D' hi hj hb
        rw [e1, e2, rsz_same (by rw [(hR' j hj).vals, (hR' i hi).vals]), rsz_same (by rw [(hR j hj).vals, (hR i hi).vals]), valsOf_at (hR j hj) (by omega) hc, ← h.offs e, valsOf_at (hR' j hj) (by omega) (by rw [h.len]; exact hc), h.val hj hi he hc (hx.imp_right Or.symm)]
    exact ⟨fun ⟨c, hc, hne⟩ => ⟨c, hc, by rw [← own c hc, ← hrec c hc]; exact hne⟩, fun ⟨c, hc, hne⟩ => ⟨c, hc, by rw [own c hc, hrec c hc]; exact hne⟩⟩
theorem Twin.saidB (h : Twin s tp q q' d0) : dSaid (s.re tp) q' = dSaid s q := by
  obtain ⟨_, hqn, _⟩ := h.D.n
  have hq := h.ql
  show flagsAll s.P s.n q' _ _ = flagsAll s.P s.n q _ _
  unfold flagsAll
  refine List.map_congr_left fun i hi => ?_
  have hi : i < s.n := List.mem_range.1 hi
  refine List.ext_getElem (by rw [flagsAcc_len, flagsAcc_len]) fun x h1 h2 => ?_
  rw [flagsAcc_len] at h2
  have hn0 : 0 < s.n := by omega
  have e1 : x / s.n < s.n := Nat.div_lt_of_lt_mul h2
  have e2 : x % s.n < s.n := Nat.mod_lt _ hn0
  have e3 : x = x / s.n * s.n + x % s.n := by rw [Nat.mul_comm]; exact (Nat.div_add_mod _ _).symm
  rw [← p6Z (d := 0) (by rw [flagsAcc_len]; exact h2), ← p6Z (d := 0) (by rw [flagsAcc_len]; exact h2), e3, flagsAcc_get (hq.trans hqn) e1 e2 s.n (Nat.le_refl _), flagsAcc_get hqn e1 e2 s.n (Nat.le_refl _)]
  have := h.differ hi e2 e1
  by_cases c : x % s.n < s.n ∧ x % s.n ≠ i ∧ SL.differ (valsOf s.P ((dRows s q).getD i []) (((x % s.n : Nat) : Int) + 1)) (rsz (((dIn1 s q).getD i []).getD (x % s.n) []) (valsOf s.P ((dRows s q).getD i []) (((x % s.n : Nat) : Int) + 1)).length) (SL.offs q (x / s.n)) (q.getD (x / s.n) []).length = true
  · rw [if_pos c, if_pos ⟨c.1, c.2.1, this.2 c.2.2⟩]
  · rw [if_neg c, if_neg (fun h => c ⟨h.1, h.2.1, this.1 h.2.2⟩)]
theorem Twin.allB (h : Twin s tp q q' d0) : dAll (s.re tp) q' = dAll s q := by
  show applyB (s.re tp) 2 (dSaid (s.re tp) q') s.devs.length = applyB s 2 (dSaid s q) s.devs.length
  rw [h.saidB, applyB_re]
theorem Twin.flags (h : Twin s tp q q' d0) : dFlags (s.re tp) q' = dFlags s q := by
  show flagsT s.n (dAll (s.re tp) q') = flagsT s.n (dAll s q)
  rw [h.allB]
theorem Twin.views (h : Twin s tp q q' d0) : SameV s.bad (dViews s q) (dViews (s.re tp) q') := by
  show SameV s.bad (castV 2 (dAll s q) s.n (dView1 s q) s.n) (castV 2 (dAll (s.re tp) q') s.n (dView1 (s.re tp) q') s.n)
  rw [h.allB]
  exact castV_same (sendV_same h.said1 (sendV_same h.said0 ⟨rfl, fun _ _ => rfl⟩ _) _) _
end
end

section
open Go

def powM (p : Int) : Nat → Int → Int → Int → Int
  | 0, _, _, out => out
  | k + 1, a, n, out => if 0 < n then powM p k (a * a % p) (n / 2) (if n % 2 = 1 then out * a % p else out) else out
def invP (p x : Int) : Int := powM p 61 x (p - 2) 1
theorem inv_table : ∀ p ∈ ([31, 127, 8191, 131071, 524287, 2147483647, 2305843009213693951] : List Int), ∀ x ∈ ([1, 2, 3, 4, 5, 6, 7] : List Int), invP p x * x % p = 1 ∧ 0 ≤ invP p x ∧ invP p x < p := by decide +kernel
theorem invP_ok {p x : Int} (hp : Supp p) (h0 : 1 ≤ x) (h1 : x ≤ 7) : invP p x * x % p = 1 ∧ 0 ≤ invP p x ∧ invP p x < p := by
  refine inv_table p ?_ x ?_
  · unfold Supp at hp
    simpa using hp
  · have : x = 1 ∨ x = 2 ∨ x = 3 ∨ x = 4 ∨ x = 5 ∨ x = 6 ∨ x = 7 := by omega
    simpa using this
section
variable {H G K : Heap} {p a n x : Int}
theorem rem2 (h : 0 ≤ n) : vInt .rem (.int .u64 n) (.int .u64 2) = some (.int .u64 (n % 2)) := by
  rw [vInt_rem, if_neg (by decide), Int.tmod_eq_emod_of_nonneg h]
theorem quo2 (h : 0 ≤ n) (h1 : n ≤ 18446744073709551615) : vInt .quo (.int .u64 n) (.int .u64 2) = some (.int .u64 (n / 2)) := by
  rw [vInt_quo, if_neg (by decide), Int.tdiv_eq_ediv_of_nonneg h, wrap_u64 (by omega) (by omega)]
theorem pow_loop (hp : Supp p) {kn : Value → Heap → Prop} {Q : Ending → Heap → Prop} : ∀ (k : Nat) (a n out : Int), 0 ≤ a → a < p → 0 ≤ out → out < p → 0 ≤ n → n < 2 ^ k → k ≤ 64 → kn (.int .u64 (powM p k a n out)) H → L133_2 (.int .u64 p) (.int .u64 a) (.int .u64 n) (.int .u64 out) H kn Q := by
  have hpp := hp.pos
  intro k
  induction k with
  | zero =>
    intro a n out ha ha1 ho ho1 hn hn1 hk h
    apply L133_2_round
    unfold m133_3
    have : n = 0 := by have : (2 : Int) ^ 0 = 1 := rfl; omega
    (repeat (first | refine qQZ (qDZ _) ?_ | refine qQZ (qEZ _) ?_ | refine qQZ (qFZ _ _) ?_ | refine qQZ (qGZ _ _) ?_ | refine qQZ (by (try with_reducible first | refine gV_F ?_ | refine gV_T ?_); first | exact q1Z _ _ | exact q2Z _ _ _ | exact q3Z _ | exact q4Z _ | exact q5Z _ _ _ | exact q6Z _ _ _ | exact q7Z _ _ _ | exact q8Z _ _ _ | exact q9Z _ _ _ | exact q0Z _ _ _ | exact qHZ (by omega) (by omega) | exact qIZ (by omega) (by omega) | exact qAZ _ | exact qBZ _ _ _ | exact qCZ _ _ _) ?_ | refine qQZ (gV_F rfl) ?_ | refine qQZ (gV_T rfl) ?_))
    exact qJZ (fun hlt => absurd hlt (by omega)) (fun _ => h)
  | succ k ih =>
    intro a n out ha ha1 ho ho1 hn hn1 hk h
    have h64 : n ≤ 18446744073709551615 := by
      have : (2 : Int) ^ (k + 1) ≤ 2 ^ 64 := by
        have := Nat.pow_le_pow_right (n := 2) (by decide) hk
        exact_mod_cast this
      omega
    apply L133_2_round
    unfold m133_3
    unfold powM at h
    have hm := Int.emod_nonneg (a * a) (show p ≠ 0 by omega)
    have hm2 := Int.emod_lt_of_pos (a * a) (show 0 < p by omega)
    have hm3 := Int.emod_nonneg (out * a) (show p ≠ 0 by omega)
    have hm4 := Int.emod_lt_of_pos (out * a) (show 0 < p by omega)
    have hq : n / 2 < 2 ^ k := by rw [Int.pow_succ] at hn1; omega
    (repeat (first | refine qQZ (qDZ _) ?_ | refine qQZ (qEZ _) ?_ | refine qQZ (qFZ _ _) ?_ | refine qQZ (qGZ _ _) ?_ | refine qQZ (by (try with_reducible first | refine gV_F ?_ | refine gV_T ?_); first | exact q1Z _ _ | exact q2Z _ _ _ | exact q3Z _ | exact q4Z _ | exact q5Z _ _ _ | exact q6Z _ _ _ | exact q7Z _ _ _ | exact q8Z _ _ _ | exact q9Z _ _ _ | exact q0Z _ _ _ | exact qHZ (by omega) (by omega) | exact qIZ (by omega) (by omega) | exact qAZ _ | exact qBZ _ _ _ | exact qCZ _ _ _) ?_ | refine qQZ (gV_F rfl) ?_ | refine qQZ (gV_T rfl) ?_))
    refine qJZ (fun hlt => ?_) (fun hlt => by rwa [if_neg (by omega)] at h)
    rw [if_pos hlt] at h
    (repeat (first | refine qQZ (qDZ _) ?_ | refine qQZ (qEZ _) ?_ | refine qQZ (qFZ _ _) ?_ | refine qQZ (qGZ _ _) ?_ | refine qQZ (by (try with_reducible first | refine gV_F ?_ | refine gV_T ?_); first | exact rem2 hn | exact q1Z _ _ | exact q2Z _ _ _ | exact q3Z _ | exact q4Z _ | exact q5Z _ _ _ | exact q6Z _ _ _ | exact q7Z _ _ _ | exact q8Z _ _ _ | exact q9Z _ _ _ | exact q0Z _ _ _ | exact qHZ (by omega) (by omega) | exact qIZ (by omega) (by omega) | exact qAZ _ | exact qBZ _ _ _ | exact qCZ _ _ _) ?_ | refine qQZ (gV_F rfl) ?_ | refine qQZ (gV_T rfl) ?_))
    refine qJZ (fun c => ?_) (fun c => ?_)
    · rw [if_pos c] at h
      refine oRC_val (rmul_spec H hp ho ho1 ha ha1) (oRC_val (rmul_spec H hp ha ha1 ha ha1) ?_)
      (repeat (first | refine qQZ (qDZ _) ?_ | refine qQZ (qEZ _) ?_ | refine qQZ (qFZ _ _) ?_ | refine qQZ (qGZ _ _) ?_ | refine qQZ (by (try with_reducible first | refine gV_F ?_ | refine gV_T ?_); first | exact quo2 hn h64 | exact q1Z _ _ | exact q2Z _ _ _ | exact q3Z _ | exact q4Z _ | exact q5Z _ _ _ | exact q6Z _ _ _ | exact q7Z _ _ _ | exact q8Z _ _ _ | exact q9Z _ _ _ | exact q0Z _ _ _ | exact qHZ (by omega) (by omega) | exact qIZ (by omega) (by omega) | exact qAZ _ | exact qBZ _ _ _ | exact qCZ _ _ _) ?_ | refine qQZ (gV_F rfl) ?_ | refine qQZ (gV_T rfl) ?_))
      exact ih _ _ _ hm hm2 hm3 hm4 (by omega) hq (by omega) h
    · rw [if_neg c] at h
      refine oRC_val (rmul_spec H hp ha ha1 ha ha1) ?_
      (repeat (first | refine qQZ (qDZ _) ?_ | refine qQZ (qEZ _) ?_ | refine qQZ (qFZ _ _) ?_ | refine qQZ (qGZ _ _) ?_ | refine qQZ (by (try with_reducible first | refine gV_F ?_ | refine gV_T ?_); first | exact quo2 hn h64 | exact q1Z _ _ | exact q2Z _ _ _ | exact q3Z _ | exact q4Z _ | exact q5Z _ _ _ | exact q6Z _ _ _ | exact q7Z _ _ _ | exact q8Z _ _ _ | exact q9Z _ _ _ | exact q0Z _ _ _ | exact qHZ (by omega) (by omega) | exact qIZ (by omega) (by omega) | exact qAZ _ | exact qBZ _ _ _ | exact qCZ _ _ _) ?_ | refine qQZ (gV_F rfl) ?_ | refine qQZ (gV_T rfl) ?_))
      exact ih _ _ _ hm hm2 ho ho1 (by omega) hq (by omega) h
theorem inverse_spec (H : Heap) (hp : Supp p) (h0 : 1 ≤ x) (h1 : x ≤ 7) : qVZ Tryd.prog 107 [.int .u64 p, .int .u64 x] H (Val (.tuple #[.int .u64 (invP p x), .int .i64 0]) H) := by
  have hpp := hp.pos
  apply call107
  unfold m107
  (repeat (first | refine qQZ (qDZ _) ?_ | refine qQZ (qEZ _) ?_ | refine qQZ (qFZ _ _) ?_ | refine qQZ (qGZ _ _) ?_ | refine qQZ (by (try with_reducible first | refine gV_F ?_ | refine gV_T ?_); first | exact q1Z _ _ | exact q2Z _ _ _ | exact q3Z _ | exact q4Z _ | exact q5Z _ _ _ | exact q6Z _ _ _ | exact q7Z _ _ _ | exact q8Z _ _ _ | exact q9Z _ _ _ | exact q0Z _ _ _ | exact qHZ (by omega) (by omega) | exact qIZ (by omega) (by omega) | exact qAZ _ | exact qBZ _ _ _ | exact qCZ _ _ _) ?_ | refine qQZ (gV_F rfl) ?_ | refine qQZ (gV_T rfl) ?_))
  refine qJZ (fun hlt => absurd hlt (by omega)) (fun _ => ?_)
  refine qQZ (v := .int .u64 (p - 2)) (by rw [vInt_sub, wrap_u64 (by omega) (by omega)]) ?_
  have hs : qVZ Tryd.prog 133 [.int .u64 p, .int .u64 x, .int .u64 (p - 2)] H (Val (.int .u64 (invP p x)) H) := by
    apply call133
    unfold m133
    exact pow_loop hp 61 x (p - 2) 1 (by omega) (by omega) (by decide) (by omega) (by omega) (by have : (2 : Int) ^ 61 = 2305843009213693952 := (by decide); omega) (by decide) ⟨rfl, rfl⟩
  refine oRC_val hs ?_
  exact ⟨rfl, rfl⟩
theorem rsub_spec (H : Heap) {b : Int} (hp : Supp p) (ha : 0 ≤ a) (ha1 : a < p) (hb : 0 ≤ b) (hb1 : b < p) : qVZ Tryd.prog 108 [.int .u64 p, .int .u64 a, .int .u64 b] H (Val (.int .u64 ((a + p - b) % p)) H) := by
  have hpp := hp.pos
  apply call108
  unfold m108
  refine qQZ (v := .int .u64 (a + p)) (by rw [vInt_add, wrap_u64 (by omega) (by omega)]) (qQZ (v := .int .u64 (a + p - b)) (by rw [vInt_sub, wrap_u64 (by omega) (by omega)]) (qQZ (v := .int .u64 ((a + p - b) % p)) (by rw [vInt_rem, if_neg (by omega), Int.tmod_eq_emod_of_nonneg (by omega)]) ?_))
  exact ⟨rfl, rfl⟩
def zGo (p c : Int) (z : List Int) : Nat → List Int
  | 0 => z ++ [0]
  | k + 1 => (zGo p c z k).set (k + 1) (((zGo p c z k).getD (k + 1) 0 + c * z.getD k 0 % p) % p)
theorem zGo_len (p c : Int) (z : List Int) : ∀ k, (zGo p c z k).length = z.length + 1
  | 0 => by simp [zGo]
  | k + 1 => by rw [zGo, List.length_set, zGo_len p c z k]
def negI (p x : Int) : Int := (0 + p - invP p x) % p
def vanP (p : Int) : List Int → List Int → List Int
  | z, [] => z
  | z, x :: xs => vanP p (zGo p (negI p x) z z.length) xs
theorem zGo_rng {c : Int} {z : List Int} (hp : 0 < p) (h : rng p z) : ∀ k, rng p (zGo p c z k)
  | 0 => fun x hx => by
    rcases List.mem_append.1 hx with hx | hx
    · exact h x hx
    · rw [List.mem_singleton.1 hx]; omega
  | k + 1 => fun x hx => by
    rcases List.mem_or_eq_of_mem_set hx with hx | rfl
    · exact zGo_rng hp h k x hx
    · exact ⟨Int.emod_nonneg _ (by omega), Int.emod_lt_of_pos _ hp⟩
theorem vanP_len (p : Int) : ∀ (xs z : List Int), (vanP p z xs).length = z.length + xs.length
  | [], z => by simp [vanP]
  | x :: xs, z => by rw [vanP, vanP_len p xs, zGo_len, List.length_cons]; omega
theorem vanP_rng (hp : 0 < p) : ∀ (xs z : List Int), rng p z → rng p (vanP p z xs)
  | [], z, h => h
  | x :: xs, z, h => vanP_rng hp xs _ (zGo_rng hp h _)
theorem van_in {c : Int} {zv ov : Value} {z : List Int} (hp : Supp p) (hz : Sl (eInt .u64) G zv z) (hr : rng p z) (hl : z.length ≤ 100) (hc : 0 ≤ c) (hc1 : c < p) {x1 x6 : Value} {kn : Value → Value → Value → Value → Heap → Prop} {kx1 kx0} {Q : Ending → Heap → Prop} (hk : ∀ K, GI G K ov (zGo p c z z.length) → kn (.int .u64 p) x1 x6 ov K) :
    ∀ (d k : Nat) (K : Heap), z.length - k = d → k ≤ z.length → GI G K ov (zGo p c z k) → L78_10 (.int .u64 p) x1 zv x6 (.int .u64 c) ov (.int .i64 k) K kn kx1 kx0 Q := by
  have hpp := hp.pos
  intro d
  induction d with
  | zero =>
    intro k K hd hk2 h
    apply L78_10_round
    unfold m78_11
    have e : k = z.length := by omega
    subst e
    (repeat (first | refine qQZ (qDZ _) ?_ | refine qQZ (qEZ _) ?_ | refine qQZ (qFZ _ _) ?_ | refine qQZ (qGZ _ _) ?_ | refine qQZ (by (try with_reducible first | refine gV_F ?_ | refine gV_T ?_); first | exact hz.len | exact q1Z _ _ | exact q2Z _ _ _ | exact q3Z _ | exact q4Z _ | exact q5Z _ _ _ | exact q6Z _ _ _ | exact q7Z _ _ _ | exact q8Z _ _ _ | exact q9Z _ _ _ | exact q0Z _ _ _ | exact qHZ (by omega) (by omega) | exact qIZ (by omega) (by omega) | exact qAZ _ | exact qBZ _ _ _ | exact qCZ _ _ _) ?_ | refine qQZ (gV_F rfl) ?_ | refine qQZ (gV_T rfl) ?_))
    exact qJZ (fun hlt => absurd hlt (by omega)) (fun _ => hk K h)
  | succ d ih =>
    intro k K hd hk2 h
    apply L78_10_round
    unfold m78_11
    (repeat (first | refine qQZ (qDZ _) ?_ | refine qQZ (qEZ _) ?_ | refine qQZ (qFZ _ _) ?_ | refine qQZ (qGZ _ _) ?_ | refine qQZ (by (try with_reducible first | refine gV_F ?_ | refine gV_T ?_); first | exact hz.len | exact q1Z _ _ | exact q2Z _ _ _ | exact q3Z _ | exact q4Z _ | exact q5Z _ _ _ | exact q6Z _ _ _ | exact q7Z _ _ _ | exact q8Z _ _ _ | exact q9Z _ _ _ | exact q0Z _ _ _ | exact qHZ (by omega) (by omega) | exact qIZ (by omega) (by omega) | exact qAZ _ | exact qBZ _ _ _ | exact qCZ _ _ _) ?_ | refine qQZ (gV_F rfl) ?_ | refine qQZ (gV_T rfl) ?_))
    refine qJZ (fun hlt => ?_) (fun hlt => absurd (by omega) hlt)
    have hkz : k < z.length := by omega
    have hlen := zGo_len p c z k
    obtain ⟨pt, a1, a2⟩ := hz.word (i := k) hkz (ti := ty22) rfl
    obtain ⟨po, b1, b2, b3⟩ := h.ix (i := k + 1) (by omega)
    have r1 := hr z[k] (List.getElem_mem _)
    have r2 := zGo_rng (c := c) (show 0 < p by omega) hr k _ (List.getElem_mem (show k + 1 < (zGo p c z k).length by omega))
    (repeat (first | refine qQZ (qDZ _) ?_ | refine qQZ (qEZ _) ?_ | refine qQZ (qFZ _ _) ?_ | refine qQZ (qGZ _ _) ?_ | refine qQZ (by (try with_reducible first | refine gV_F ?_ | refine gV_T ?_); first | exact add_one (a := k) (by omega) | exact b1 | exact b2 | exact a1 | exact qKZ h.le a2 | exact q1Z _ _ | exact q2Z _ _ _ | exact q3Z _ | exact q4Z _ | exact q5Z _ _ _ | exact q6Z _ _ _ | exact q7Z _ _ _ | exact q8Z _ _ _ | exact q9Z _ _ _ | exact q0Z _ _ _ | exact qHZ (by omega) (by omega) | exact qIZ (by omega) (by omega) | exact qAZ _ | exact qBZ _ _ _ | exact qCZ _ _ _) ?_ | refine qQZ (gV_F rfl) ?_ | refine qQZ (gV_T rfl) ?_))
    refine oRC_val (rmul_spec K hp hc hc1 r1.1 r1.2) ⟨b2, ?_⟩
    have m1 := Int.emod_nonneg (c * z[k]) (show p ≠ 0 by omega)
    have m2 := Int.emod_lt_of_pos (c * z[k]) (show 0 < p by omega)
    refine oRC_val (radd_spec K (by omega) r2.1 m1 (by omega)) ?_
    obtain ⟨K2, c1, c2⟩ := b3 (((zGo p c z k)[k + 1] + c * z[k] % p) % p)
    (repeat (first | refine qQZ (qDZ _) ?_ | refine qQZ (qEZ _) ?_ | refine qQZ (qFZ _ _) ?_ | refine qQZ (qGZ _ _) ?_ | refine qQZ (by (try with_reducible first | refine gV_F ?_ | refine gV_T ?_); first | exact b1 | exact q1Z _ _ | exact q2Z _ _ _ | exact q3Z _ | exact q4Z _ | exact q5Z _ _ _ | exact q6Z _ _ _ | exact q7Z _ _ _ | exact q8Z _ _ _ | exact q9Z _ _ _ | exact q0Z _ _ _ | exact qHZ (by omega) (by omega) | exact qIZ (by omega) (by omega) | exact qAZ _ | exact qBZ _ _ _ | exact qCZ _ _ _) ?_ | refine qQZ (gV_F rfl) ?_ | refine qQZ (gV_T rfl) ?_))
    refine p8Z c1 ?_
    (repeat (first | refine qQZ (qDZ _) ?_ | refine qQZ (qEZ _) ?_ | refine qQZ (qFZ _ _) ?_ | refine qQZ (qGZ _ _) ?_ | refine qQZ (by (try with_reducible first | refine gV_F ?_ | refine gV_T ?_); first | exact add_one (a := k) (by omega) | exact q1Z _ _ | exact q2Z _ _ _ | exact q3Z _ | exact q4Z _ | exact q5Z _ _ _ | exact q6Z _ _ _ | exact q7Z _ _ _ | exact q8Z _ _ _ | exact q9Z _ _ _ | exact q0Z _ _ _ | exact qHZ (by omega) (by omega) | exact qIZ (by omega) (by omega) | exact qAZ _ | exact qBZ _ _ _ | exact qCZ _ _ _) ?_ | refine qQZ (gV_F rfl) ?_ | refine qQZ (gV_T rfl) ?_))
    refine ih (k + 1) K2 (by omega) (by omega) ?_
    unfold zGo
    rw [p6Z (show k + 1 < (zGo p c z k).length by omega), p6Z hkz]
    exact c2
theorem vanish10_spec {xv : Value} {xs : List Int} (hp : Supp p) (hx : Sl (eInt .u64) H xv xs) (hr : ∀ x ∈ xs, 1 ≤ x ∧ x ≤ 7) (hl : xs.length ≤ 20) : qVZ Tryd.prog 78 [.int .u64 p, xv] H (Ret fun v H' => GI H H' v (vanP p [1] xs)) := by
  have hpp := hp.pos
  have hmx := hx.max
  apply call78
  unfold m78 m78_2
  show oNew (([1] : List Int).map (.int .u64)) 1 22 H _
  intro i hi
  have g0 : GI H (hins H i (.cells (([1] : List Int).map (.int .u64)) 1 22 true)) (.slice (some ⟨i, 0, none⟩) 1 1) [1] := by
    unfold GI
    exact ⟨Le.ins _ hi, .inr ⟨i, 1, rfl, by decide, by decide, hins_self _ _ _, rfl⟩, fun b hb => by cases hb; exact hi⟩
  suffices key : ∀ (d k : Nat) (zv : Value) (z : List Int) (K : Heap), xs.length - k = d → k ≤ xs.length → z.length ≤ k + 1 → rng p z → GI H K zv z → vanP p z (xs.drop k) = vanP p [1] xs → L78_3 (.int .u64 p) xv zv (.int .i64 k) K _ _ from key _ 0 _ [1] _ rfl (by omega) (by simp) (fun x hx => by rw [List.mem_singleton.1 hx]; omega) g0 (by simp)
  intro d
  induction d with
  | zero =>
    intro k zv z K hd hk hzl hzr hz hv
    apply L78_3_round
    unfold m78_4
    (repeat (first | refine qQZ (qDZ _) ?_ | refine qQZ (qEZ _) ?_ | refine qQZ (qFZ _ _) ?_ | refine qQZ (qGZ _ _) ?_ | refine qQZ (by (try with_reducible first | refine gV_F ?_ | refine gV_T ?_); first | exact hx.len | exact q1Z _ _ | exact q2Z _ _ _ | exact q3Z _ | exact q4Z _ | exact q5Z _ _ _ | exact q6Z _ _ _ | exact q7Z _ _ _ | exact q8Z _ _ _ | exact q9Z _ _ _ | exact q0Z _ _ _ | exact qHZ (by omega) (by omega) | exact qIZ (by omega) (by omega) | exact qAZ _ | exact qBZ _ _ _ | exact qCZ _ _ _) ?_ | refine qQZ (gV_F rfl) ?_ | refine qQZ (gV_T rfl) ?_))
    refine qJZ (fun hlt => absurd hlt (by omega)) (fun _ => ?_)
    rw [List.drop_of_length_le (by omega)] at hv
    rw [← hv]
    exact hz
  | succ d ih =>
    intro k zv z K hd hk hzl hzr hz hv
    apply L78_3_round
    unfold m78_4
    (repeat (first | refine qQZ (qDZ _) ?_ | refine qQZ (qEZ _) ?_ | refine qQZ (qFZ _ _) ?_ | refine qQZ (qGZ _ _) ?_ | refine qQZ (by (try with_reducible first | refine gV_F ?_ | refine gV_T ?_); first | exact hx.len | exact q1Z _ _ | exact q2Z _ _ _ | exact q3Z _ | exact q4Z _ | exact q5Z _ _ _ | exact q6Z _ _ _ | exact q7Z _ _ _ | exact q8Z _ _ _ | exact q9Z _ _ _ | exact q0Z _ _ _ | exact qHZ (by omega) (by omega) | exact qIZ (by omega) (by omega) | exact qAZ _ | exact qBZ _ _ _ | exact qCZ _ _ _) ?_ | refine qQZ (gV_F rfl) ?_ | refine qQZ (gV_T rfl) ?_))
    refine qJZ (fun hlt => ?_) (fun hlt => absurd (by omega) hlt)
    unfold m78_6 m78_7
    have hkx : k < xs.length := by omega
    obtain ⟨pt, a1, a2⟩ := hx.word (i := k) hkx (ti := ty22) rfl
    have hxk := hr xs[k] (List.getElem_mem _)
    obtain ⟨_, i0, i1⟩ := invP_ok hp hxk.1 hxk.2
    (repeat (first | refine qQZ (qDZ _) ?_ | refine qQZ (qEZ _) ?_ | refine qQZ (qFZ _ _) ?_ | refine qQZ (qGZ _ _) ?_ | refine qQZ (by (try with_reducible first | refine gV_F ?_ | refine gV_T ?_); first | exact a1 | exact qKZ hz.le a2 | exact q1Z _ _ | exact q2Z _ _ _ | exact q3Z _ | exact q4Z _ | exact q5Z _ _ _ | exact q6Z _ _ _ | exact q7Z _ _ _ | exact q8Z _ _ _ | exact q9Z _ _ _ | exact q0Z _ _ _ | exact qHZ (by omega) (by omega) | exact qIZ (by omega) (by omega) | exact qAZ _ | exact qBZ _ _ _ | exact qCZ _ _ _) ?_ | refine qQZ (gV_F rfl) ?_ | refine qQZ (gV_T rfl) ?_))
    refine oRC_val (inverse_spec K hp hxk.1 hxk.2) ?_
    refine qQZ (v := .int .u64 (invP p xs[k])) rfl (qQZ (v := .int .i64 0) rfl ?_)
    refine oRC_val (rsub_spec K hp (by decide) (by omega) i0 i1) ?_
    have c0 : 0 ≤ negI p xs[k] := Int.emod_nonneg _ (by omega)
    have c1 : negI p xs[k] < p := Int.emod_lt_of_pos _ (by omega)
    refine copy_empty fun s1 K1 _ cp => cp _ _ _ hz.sl (by omega) fun v1 K2 g1 => ?_
    have g1' : GI K K2 v1 z := g1
    refine g1'.snoc (by omega) fun v2 K3 g2 => ?_
    unfold m78_9
    refine van_in hp hz.sl hzr (by omega) c0 c1 (fun K4 g4 => ?_) _ 0 K3 rfl (by omega) g2
    unfold m78_8 m78_5
    (repeat (first | refine qQZ (qDZ _) ?_ | refine qQZ (qEZ _) ?_ | refine qQZ (qFZ _ _) ?_ | refine qQZ (qGZ _ _) ?_ | refine qQZ (by (try with_reducible first | refine gV_F ?_ | refine gV_T ?_); first | exact add_one (a := k) (by omega) | exact q1Z _ _ | exact q2Z _ _ _ | exact q3Z _ | exact q4Z _ | exact q5Z _ _ _ | exact q6Z _ _ _ | exact q7Z _ _ _ | exact q8Z _ _ _ | exact q9Z _ _ _ | exact q0Z _ _ _ | exact qHZ (by omega) (by omega) | exact qIZ (by omega) (by omega) | exact qAZ _ | exact qBZ _ _ _ | exact qCZ _ _ _) ?_ | refine qQZ (gV_F rfl) ?_ | refine qQZ (gV_T rfl) ?_))
    refine ih (k + 1) v2 _ K4 (by omega) (by omega) (by rw [zGo_len]; omega) (zGo_rng (by omega) hzr _) (Grown.less g4 hz.le) ?_
    rw [← hv, List.drop_eq_getElem_cons hkx]
    rfl
theorem emod_wit (e : Int) : ∃ k, e % p = e + p * k := ⟨-(e / p), by rw [Int.emod_def]; grind⟩
theorem emod_same {a b : Int} (h : ∃ k, a = b + p * k) : a % p = b % p := by
  obtain ⟨k, rfl⟩ := h
  exact Int.add_mul_emod_self_left b p k
def Root (p x : Int) (z : List Int) : Prop := ∃ k, val x z = p * k
theorem negI_root (hp : Supp p) (h0 : 1 ≤ x) (h1 : x ≤ 7) : ∃ k, 1 + negI p x * x = p * k := by
  obtain ⟨e, _, _⟩ := invP_ok hp h0 h1
  obtain ⟨k1, h1⟩ := emod_wit (p := p) (invP p x * x)
  obtain ⟨k2, h2⟩ := emod_wit (p := p) (0 + p - invP p x)
  refine ⟨x + k2 * x - k1 + 2 * k1, ?_⟩
  unfold negI
  rw [h2]
  rw [e] at h1
  grind
theorem zGo1 {c a : Int} : zGo p c [a] 1 = [a, (0 + c * a % p) % p] := rfl
theorem zGo2 {c a b : Int} : zGo p c [a, b] 2 = [a, (b + c * a % p) % p, (0 + c * b % p) % p] := rfl
theorem root1 {a : Int} (hp : Supp p) (h0 : 1 ≤ a) (h1 : a ≤ 7) : Root p a (vanP p [1] [a]) := by
  show ∃ k, val a (zGo p (negI p a) [1] 1) = p * k
  rw [zGo1, val2]
  obtain ⟨k, hk⟩ := negI_root hp h0 h1
  obtain ⟨k1, h1⟩ := emod_wit (p := p) (negI p a * 1)
  obtain ⟨k2, h2⟩ := emod_wit (p := p) (0 + negI p a * 1 % p)
  rw [h2, h1]
  exact ⟨k + k1 * a + k2 * a, by grind⟩
theorem wit2 (b a : Int) : ∃ k, (b + a % p) % p = b + a + p * k := by
  obtain ⟨k1, h1⟩ := emod_wit (p := p) a
  obtain ⟨k2, h2⟩ := emod_wit (p := p) (b + a % p)
  exact ⟨k1 + k2, by rw [h2, h1]; grind⟩
theorem wit3 (a d u : Int) : ∃ k, (a + d * (u % p) % p) % p = a + d * u + p * k := by
  obtain ⟨k1, h1⟩ := emod_wit (p := p) u
  obtain ⟨k2, h2⟩ := wit2 (p := p) a (d * (u % p))
  exact ⟨d * k1 + k2, by rw [h2, h1]; grind⟩
theorem root2 {a b : Int} (hp : Supp p) (ha : 1 ≤ a ∧ a ≤ 7) (hb : 1 ≤ b ∧ b ≤ 7) (hx : x = a ∨ x = b) : Root p x (vanP p [1] [a, b]) := by
  show ∃ k, val x (zGo p (negI p b) (zGo p (negI p a) [1] 1) 2) = p * k
  rw [zGo1, zGo2, val3]
  have key : ∃ k, (1 + negI p a * x) * (1 + negI p b * x) = p * k := by
    rcases hx with rfl | rfl
    · obtain ⟨k, hk⟩ := negI_root hp ha.1 ha.2
      exact ⟨k * (1 + negI p b * x), by rw [hk]; grind⟩
    · obtain ⟨k, hk⟩ := negI_root hp hb.1 hb.2
      exact ⟨k * (1 + negI p a * x), by rw [hk]; grind⟩
  obtain ⟨k, hk⟩ := key
  obtain ⟨k1, h1⟩ := wit2 (p := p) 0 (negI p a * 1)
  rw [h1]
  generalize negI p a = c1 at *
  generalize negI p b = c2 at *
  obtain ⟨k2, h2⟩ := wit2 (p := p) (0 + c1 * 1 + p * k1) (c2 * 1)
  obtain ⟨k3, h3⟩ := wit2 (p := p) 0 (c2 * (0 + c1 * 1 + p * k1))
  rw [h2, h3]
  exact ⟨k + (k1 + k2) * x + (c2 * k1 + k3) * x * x, by grind⟩
def transM (p d : Int) (m : List (List Int)) (z : List Int) : List (List Int) := (List.range m.length).map fun i => (List.range m.length).map fun j => ((m.getD i []).getD j 0 + d * (z.getD i 0 * z.getD j 0 % p) % p) % p
def restM (m : List (List Int)) : Nat → List Int
  | 0 => []
  | i + 1 => restM m i ++ (m.getD (i + 1) []).drop (i + 1)
theorem row_new2 {a b c : Int} (hp : 1 < p) (hf : rng p [a, b]) (hr : rng p [c]) : rowL p x (newM [a, b] [c]) = [(a + b * x) % p, (b + c * x) % p] := by
  obtain ⟨hs, hl⟩ := newM_mem (.inl ⟨rfl, rfl⟩) hf hr
  have at_ := fun (j : Nat) (hj : j < (newM [a, b] [c]).length) => rowL_at (x := x) hp hs hj
  rw [list2 (l := rowL p x (newM [a, b] [c])) (by rw [rowL_len hs]; rfl), at_ 0 (by show 0 < 2; decide), at_ 1 (by show 1 < 2; decide)]
  show [val x [a, b] % p, val x [b, c] % p] = _
  rw [val2, val2]
theorem row_new3 {a b c d e f : Int} (hp : 1 < p) (hf : rng p [a, b, c]) (hr : rng p [d, e, f]) : rowL p x (newM [a, b, c] [d, e, f]) = [(a + b * x + c * x * x) % p, (b + d * x + e * x * x) % p, (c + e * x + f * x * x) % p] := by
  obtain ⟨hs, hl⟩ := newM_mem (.inr ⟨rfl, rfl⟩) hf hr
  have at_ := fun (j : Nat) (hj : j < (newM [a, b, c] [d, e, f]).length) => rowL_at (x := x) hp hs hj
  rw [list3 (l := rowL p x (newM [a, b, c] [d, e, f])) (by rw [rowL_len hs]; rfl), at_ 0 (by show 0 < 3; decide), at_ 1 (by show 1 < 3; decide), at_ 2 (by show 2 < 3; decide)]
  show [val x [a, b, c] % p, val x [b, d, e] % p, val x [c, e, f] % p] = _
  rw [val3, val3, val3]
theorem rngm (hp : 1 < p) (l : List Int) : rng p (l.map (· % p)) := fun x hx => by
  obtain ⟨y, _, rfl⟩ := List.mem_map.1 hx
  exact ⟨Int.emod_nonneg _ (by omega), Int.emod_lt_of_pos _ (by omega)⟩
theorem alg2 {a b d z0 z1 k k1 k2 w u0 u1 : Int} (hk : z0 + z1 * x = p * k) (h0 : u0 = w * z0) (h1 : u1 = w * z1) : a + d * u0 + p * k1 + (b + d * u1 + p * k2) * x = a + b * x + p * (d * w * k + k1 + k2 * x) := by
  subst h0 h1
  have h : d * w * (z0 + z1 * x) = d * w * (p * k) := by rw [hk]
  clear hk
  grind
theorem alg3 {a b c d z0 z1 z2 k k1 k2 k3 w u0 u1 u2 : Int} (hk : z0 + z1 * x + z2 * x * x = p * k) (h0 : u0 = w * z0) (h1 : u1 = w * z1) (h2 : u2 = w * z2) : a + d * u0 + p * k1 + (b + d * u1 + p * k2) * x + (c + d * u2 + p * k3) * x * x = a + b * x + c * x * x + p * (d * w * k + k1 + k2 * x + k3 * x * x) := by
  subst h0 h1 h2
  have h : d * w * (z0 + z1 * x + z2 * x * x) = d * w * (p * k) := by rw [hk]
  clear hk
  grind
theorem trans_new {f r z : List Int} {d : Int} (hp : 1 < p) (h : newOk f r) (hf : rng p f) (hr : rng p r) (hz : z.length = f.length) : ∃ f' r', transM p d (newM f r) z = newM f' r' ∧ newOk f' r' ∧ f'.length = f.length ∧ r'.length = r.length ∧ rng p f' ∧ rng p r' ∧ (newM f' r').getD 0 [] = f' ∧ restM (newM f' r') (f.length - 1) = r' ∧ ∀ x, Root p x z → rowL p x (newM f' r') = rowL p x (newM f r) := by
  rcases h with ⟨h1, h2⟩ | ⟨h1, h2⟩
  · obtain ⟨a, b, rfl⟩ := len2 h1
    obtain ⟨c, rfl⟩ := len1 h2
    obtain ⟨z0, z1, rfl⟩ := len2 (hz.trans h1)
    have e := Int.mul_comm z1 z0
    have g1 : rng p [(a + d * (z0 * z0 % p) % p) % p, (b + d * (z0 * z1 % p) % p) % p] := rngm hp [_, _]
    have g2 : rng p [(c + d * (z1 * z1 % p) % p) % p] := rngm hp [_]
    refine ⟨[(a + d * (z0 * z0 % p) % p) % p, (b + d * (z0 * z1 % p) % p) % p], [(c + d * (z1 * z1 % p) % p) % p], ?_, .inl ⟨rfl, rfl⟩, rfl, rfl, g1, g2, rfl, rfl, fun x hx => ?_⟩
    · simp [transM, newM, List.range_succ, e]
    · rw [row_new2 hp g1 g2, row_new2 hp hf hr]
      obtain ⟨k, hk⟩ := hx
      rw [val2] at hk
      obtain ⟨k1, h1⟩ := wit3 (p := p) a d (z0 * z0)
      obtain ⟨k2, h2⟩ := wit3 (p := p) b d (z0 * z1)
      obtain ⟨k3, h3⟩ := wit3 (p := p) c d (z1 * z1)
      rw [h1, h2, h3, emod_same ⟨_, alg2 (w := z0) hk rfl rfl⟩, emod_same ⟨_, alg2 (w := z1) hk e.symm rfl⟩]
  · obtain ⟨a, b, c, rfl⟩ := len3 h1
    obtain ⟨u, v, w, rfl⟩ := len3 h2
    obtain ⟨z0, z1, z2, rfl⟩ := len3 (hz.trans h1)
    have e := Int.mul_comm z1 z0
    have e2 := Int.mul_comm z2 z0
    have e3 := Int.mul_comm z2 z1
    have g1 : rng p [(a + d * (z0 * z0 % p) % p) % p, (b + d * (z0 * z1 % p) % p) % p, (c + d * (z0 * z2 % p) % p) % p] := rngm hp [_, _, _]
    have g2 : rng p [(u + d * (z1 * z1 % p) % p) % p, (v + d * (z1 * z2 % p) % p) % p, (w + d * (z2 * z2 % p) % p) % p] := rngm hp [_, _, _]
    refine ⟨[(a + d * (z0 * z0 % p) % p) % p, (b + d * (z0 * z1 % p) % p) % p, (c + d * (z0 * z2 % p) % p) % p], [(u + d * (z1 * z1 % p) % p) % p, (v + d * (z1 * z2 % p) % p) % p, (w + d * (z2 * z2 % p) % p) % p], ?_, .inr ⟨rfl, rfl⟩, rfl, rfl, g1, g2, rfl, rfl, fun x hx => ?_⟩
    · simp [transM, newM, List.range_succ, e, e2, e3]
    · rw [row_new3 hp g1 g2, row_new3 hp hf hr]
      obtain ⟨k, hk⟩ := hx
      rw [val3] at hk
      obtain ⟨k1, h1⟩ := wit3 (p := p) a d (z0 * z0)
      obtain ⟨k2, h2⟩ := wit3 (p := p) b d (z0 * z1)
      obtain ⟨k3, h3⟩ := wit3 (p := p) c d (z0 * z2)
      obtain ⟨k4, h4⟩ := wit3 (p := p) u d (z1 * z1)
      obtain ⟨k5, h5⟩ := wit3 (p := p) v d (z1 * z2)
      obtain ⟨k6, h6⟩ := wit3 (p := p) w d (z2 * z2)
      rw [h1, h2, h3, h4, h5, h6, emod_same ⟨_, alg3 (w := z0) hk rfl rfl rfl⟩, emod_same ⟨_, alg3 (w := z1) hk e.symm rfl rfl⟩, emod_same ⟨_, alg3 (w := z2) hk e2.symm e3.symm rfl⟩]
end
end

end Go.Proofs.YtchhpagkdaaglaaDoor.SL
