/- Messages of all to all: slices of slices of slices; one deviation upon one row. -/
import Derived.Test.YtchhpagkdaaglaaDoorAdvC
set_option linter.unusedVariables false
set_option linter.unusedSimpArgs false
namespace Go.Proofs.YtchhpagkdaaglaaDoor.SL
open Go

theorem grown_put {G0 G : Heap} {sz n i : Nat} {e : TypeId} {v : Value} {cs : List Value} (h : Grown G0 G sz e v n cs) (hi : G0 i = none) (hv : blkOf v ≠ some i) (c : Blk) : Grown G0 (hins G i c) sz e v n cs := by
  refine ⟨fun j d hj => ?_, h.2.1.mono fun j hj => ?_, h.2.2⟩
  · rw [hins_other _ _ (fun e => by subst e; rw [hi] at hj; cases hj)]
    exact h.1 j d hj
  · rw [hins_other _ _ (fun e => by subst e; exact hv hj)]
/-- An element, with its block. -/
theorem Grown.ixb {G H : Heap} {e : TypeId} {v : Value} {n : Nat} {cs : List Value} (h : Grown G H 1 e v n cs) {i : Nat} (hi : i < n) : ∃ j cap, v = .slice (some ⟨j, 0, none⟩) n cap ∧ H j = some (.cells cs (cap * 1) e true) ∧ G j = none ∧ vIdxS 1 v (.int .i64 i) = some (.pointer (some ⟨j, i, none⟩)) ∧
    ∀ (ti : TI) (y : Value), ti.agg = false → ti.size = 1 → y.oneCell' = true → vStore ti (.pointer (some ⟨j, i, none⟩)) y H = some (hins H j (.cells (cs.set i y) (cap * 1) e true)) ∧ Grown G (hins H j (.cells (cs.set i y) (cap * 1) e true)) 1 e v n (cs.set i y) := by
  obtain ⟨hle, ho, hn⟩ := h
  have hl := ho.length
  rcases ho with ⟨_, rfl, _⟩ | ⟨j, cap, rfl, h1, h2, h3, h4⟩
  · omega
  · have hG := hn j rfl
    refine ⟨j, cap, rfl, h3, hG, ?_, fun ti y ht hs hy => ⟨?_, fun x c hx => ?_, .inr ⟨j, cap, rfl, h1, h2, hins_self _ _ _, by simpa using h4⟩, fun x hx => hn x hx⟩⟩
    · simp only [vIdxS]
      rw [if_pos (by omega)]
      simp
    · simp only [vStore, h3, stCells, ht, Bool.false_eq_true, if_false]
      rw [if_pos ⟨hs, hy, by omega⟩]
      rfl
    · rw [hins_other _ _ (fun e0 => by subst e0; rw [hG] at hx; cases hx)]
      exact hle x c hx
theorem Rw.put_other {R H : Heap} {v : Value} {rows : List (List Int)} {b : Nat} (h : Rw R H v rows) (hb : R b = none) (hv : blkOf v ≠ some b) (c : Blk) : Rw R (hins H b c) v rows := by
  obtain ⟨us, h1, h2, h3⟩ := h
  exact ⟨us, h1, grown_put h2 hb hv c, h3⟩
theorem Rw.blk {R H : Heap} {v : Value} {rows : List (List Int)} (h : Rw R H v rows) {b : Nat} (hb : blkOf v = some b) : R b = none ∧ ∃ cs n, H b = some (.cells cs n 52 true) := by
  obtain ⟨us, h1, h2, h3⟩ := h
  exact ⟨h2.2.2 b hb, h2.2.1.at_ hb⟩
theorem Rw.one {R H : Heap} {v : Value} {rows : List (List Int)} (h : Rw R H v rows) : v.oneCell' = true := by
  obtain ⟨us, h1, h2, h3⟩ := h
  obtain ⟨b, cap, rfl, _⟩ := h2.2.1.read
  rfl
/-- Rows of one's own in a slice of one's own. -/
def Mx (R H : Heap) (v : Value) (mat : List (List (List Int))) : Prop := ∃ us, us.length = mat.length ∧ Grown R H 1 27 v mat.length us ∧ (∀ (j : Nat) u m, us[j]? = some u → mat[j]? = some m → Rw R H u m) ∧
  ∀ (i j : Nat) u w b, i ≠ j → us[i]? = some u → us[j]? = some w → blkOf u = some b → blkOf w ≠ some b
section
variable {R H : Heap} {v : Value} {mat : List (List (List Int))}
theorem Mx.le (h : Mx R H v mat) : Le R H := by
  obtain ⟨us, h1, h2, h3, h4⟩ := h
  exact h2.1
theorem Mx.grow {K : Heap} (h : Mx R H v mat) (hl : Le H K) : Mx R K v mat := by
  obtain ⟨us, h1, h2, h3, h4⟩ := h
  exact ⟨us, h1, h2.le hl, fun j u m hu hm => (h3 j u m hu hm).grow hl, h4⟩
theorem Mx.news {H' N : Heap} (h : Mx R H v mat) (hN : New H H' N) : Mx (hun R N) H' v mat := by
  obtain ⟨us, h1, h2, h3, h4⟩ := h
  exact ⟨us, h1, h2.news hN, fun j u m hu hm => (h3 j u m hu hm).news hN, h4⟩
theorem Mx.len (h : Mx R H v mat) : vLen v = some (.int .i64 mat.length) := by
  obtain ⟨us, h1, h2, h3, h4⟩ := h
  exact h2.2.1.len
theorem Mx.sl (h : Mx R H v mat) : Sl (eSlice (eSlice (eInt .u64))) H v mat := by
  obtain ⟨us, h1, h2, h3, h4⟩ := h
  refine h2.2.1.sl (e := eSlice (eSlice (eInt .u64))) fun i x hi => ?_
  obtain ⟨hl, rfl⟩ := List.getElem?_eq_some_iff.1 hi
  have hi' : i < us.length := by omega
  exact ⟨us[i], one_get _ i us[i] (List.getElem?_eq_getElem hi'), (h3 i _ _ (List.getElem?_eq_getElem hi') hi).sl⟩
/-- The row i. -/
theorem Mx.get (h : Mx R H v mat) {i : Nat} (hi : i < mat.length) : ∃ pt u, vIdxS 1 v (.int .i64 i) = some pt ∧ vLoad ty27 pt H = some u ∧ Rw R H u (mat.getD i []) ∧
    (∀ {H' N : Heap}, New H H' N → vLoad ty27 pt H' = some u) ∧
    ∀ {j : Nat} {w : Value} {r : List Int}, j < (mat.getD i []).length → Sl (eInt .u64) R w r → ∃ pt2 H', vIdxS 1 u (.int .i64 j) = some pt2 ∧ vStore ty52 pt2 w H = some H' ∧ Mx R H' v (mat.set i ((mat.getD i []).set j r)) := by
  obtain ⟨us, h1, h2, h3, h4⟩ := h
  have hi' : i < us.length := by omega
  obtain ⟨jo, capo, rfl, hjo, hRo, hix, _⟩ := h2.ixb hi
  have e : mat.getD i [] = mat[i] := by simp [hi]
  have hrow := h3 i us[i] mat[i] (List.getElem?_eq_getElem hi') (List.getElem?_eq_getElem hi)
  have ld : ∀ K : Heap, K jo = some (.cells us (capo * 1) 27 true) → vLoad ty27 (.pointer (some ⟨jo, i, none⟩)) K = some us[i] := fun K hK => by
    simp only [vLoad, hK, show (ty27).agg = false from rfl, Bool.false_eq_true, if_false]
    exact List.getElem?_eq_getElem hi'
  rw [e]
  refine ⟨_, us[i], hix, ld H hjo, hrow, fun {H' N} hN => ld H' (hN.1 _ _ hjo), fun {j w r} hj hw => ?_⟩
  obtain ⟨ws, w1, w2, w3⟩ := hrow
  obtain ⟨jr, capr, hur, hjr, hRr, hixr, hst⟩ := w2.ixb hj
  obtain ⟨s1, s2⟩ := hst ty52 w rfl rfl hw.one
  have hbu : blkOf us[i] = some jr := by rw [hur]; rfl
  refine ⟨_, _, hixr, s1, us, by simpa using h1, ?_, fun k u m hu hm => ?_, h4⟩
  · rw [List.length_set]
    refine grown_put h2 hRr (fun e0 => ?_) _
    have e1 : jo = jr := by cases e0; rfl
    subst e1
    rw [hjo] at hjr
    simp at hjr
  · by_cases c : i = k
    · subst c
      rw [List.getElem?_set_self hi] at hm
      rw [List.getElem?_eq_getElem hi'] at hu
      cases hm
      cases hu
      refine ⟨ws.set j w, by simpa using w1, by rw [List.length_set]; exact s2, fun q x y hx hy => ?_⟩
      by_cases c : j = q
      · subst c
        rw [List.getElem?_set_self (by omega)] at hx hy
        cases hx
        cases hy
        exact hw
      · rw [List.getElem?_set_ne c] at hx hy
        exact w3 q x y hx hy
    · rw [List.getElem?_set_ne c] at hm
      exact (h3 k u m hu hm).put_other hRr (fun e0 => h4 i k us[i] u jr c (List.getElem?_eq_getElem hi') hu hbu e0) _
/-- A row of one's own takes the place i. -/
theorem Mx.setRow {H1 : Heap} (h : Mx R H v mat) {i : Nat} (hi : i < mat.length) {w : Value} {m : List (List Int)} (hl : Le H H1) (hw : Rw R H1 w m) (hnew : ∀ b, blkOf w = some b → H b = none) :
    ∃ pt H', vIdxS 1 v (.int .i64 i) = some pt ∧ vStore ty27 pt w H1 = some H' ∧ Mx R H' v (mat.set i m) := by
  obtain ⟨us, h1, h2, h3, h4⟩ := h
  obtain ⟨jo, capo, rfl, hjo, hRo, hix, hst⟩ := (h2.le hl).ixb hi
  obtain ⟨s1, s2⟩ := hst ty27 w rfl rfl hw.one
  have hoH : ∃ cs n, H jo = some (.cells cs n 27 true) := h2.2.1.at_ rfl
  have other : ∀ (u : Value) (q : List (List Int)), Rw R H1 u q → blkOf u ≠ some jo := fun u q hu e0 => by
    obtain ⟨_, _, _, h5⟩ := hu.blk e0
    rw [hjo] at h5
    cases h5
  refine ⟨_, _, hix, s1, us.set i w, by simpa using h1, by rw [List.length_set]; exact s2, fun k u q hu hq => ?_, fun k k' u u' b hkk hu hu' hb => ?_⟩
  · by_cases c : i = k
    · subst c
      rw [List.getElem?_set_self (by omega)] at hu hq
      cases hu
      cases hq
      exact hw.put_other hRo (other _ _ hw) _
    · rw [List.getElem?_set_ne c] at hu hq
      have := (h3 k u q hu hq).grow hl
      exact this.put_other hRo (other _ _ this) _
  · have key : ∀ (z : Value) (x : Nat) (bb : Nat), us[x]? = some z → blkOf z = some bb → blkOf w ≠ some bb := fun z x bb hz hzb e0 => by
      have hx : x < us.length := (List.getElem?_eq_some_iff.1 hz).1
      obtain ⟨_, _, _, h5⟩ := (h3 x z (mat[x]'(by omega)) hz (List.getElem?_eq_getElem _)).blk hzb
      rw [hnew bb e0] at h5
      cases h5
    by_cases c : i = k
    · subst c
      rw [List.getElem?_set_self (by omega)] at hu
      rw [List.getElem?_set_ne hkk] at hu'
      cases hu
      exact fun e0 => key u' k' b hu' e0 hb
    · rw [List.getElem?_set_ne c] at hu
      by_cases c' : i = k'
      · subst c'
        rw [List.getElem?_set_self (by omega)] at hu'
        cases hu'
        exact key u k b hu hb
      · rw [List.getElem?_set_ne c'] at hu'
        exact h4 k k' u u' b hkk hu hu' hb
end
/-! ### One deviation upon one row -/
def hits (d : Dev) (j : Nat) : Prop := (j : Int) + 1 ≠ d.fr ∧ (d.to_ = 0 ∨ d.to_ = (j : Int) + 1)
instance (d : Dev) (j : Nat) : Decidable (hits d j) := by unfold hits; infer_instance
def rowTo (s : Scn) (d : Dev) (said : List Int) (row : List (List Int)) : Nat → List (List Int)
  | 0 => row
  | j + 1 => if hits d j then (rowTo s d said row j).set j (told s.P s.bad d ((rowTo s d said row j).getD j []) said) else rowTo s d said row j
theorem rowTo_msgs {s : Scn} {d : Dev} {said : List Int} {row : List (List Int)} (hp : 0 < s.P) (h : Msgs s.P s.N row) : ∀ j, Msgs s.P s.N (rowTo s d said row j)
  | 0 => h
  | j + 1 => by
    have ih := rowTo_msgs (d := d) (said := said) hp h j
    simp only [rowTo]
    split
    · refine ⟨by rw [List.length_set]; exact ih.len, fun r hr => ?_⟩
      rcases List.mem_or_eq_of_mem_set hr with hr | rfl
      · exact ih.rng r hr
      · have := ih.get j
        exact ⟨told_rng hp this.1, Nat.le_trans told_len this.2⟩
    · exact ih
theorem rowTo_said {s : Scn} {d : Dev} {row : List (List Int)} (h : d.kd ≠ 3) (a b : List Int) : ∀ j, rowTo s d a row j = rowTo s d b row j
  | 0 => rfl
  | j + 1 => by
    simp only [rowTo, rowTo_said h a b j]
    rw [told_said h a b]
def saidM (out : List (List (List Int))) (d : Dev) : List Int := (out.getD (d.of_ - 1).toNat []).getD (d.fr - 1).toNat []
def stepM (s : Scn) (rd : Int) (out mat : List (List (List Int))) (d : Dev) : List (List (List Int)) :=
  if d.rd = rd ∧ d.fr ∈ s.bad then mat.set (d.fr - 1).toNat (rowTo s d (saidM out d) (mat.getD (d.fr - 1).toNat []) s.N.toNat) else mat
def applyM (s : Scn) (rd : Int) (out : List (List (List Int))) (i : Nat) : List (List (List Int)) := (s.devs.take i).foldl (stepM s rd out) out
structure MsgsM (p n : Int) (mat : List (List (List Int))) : Prop where
  len : (mat.length : Int) = n
  rows : ∀ m ∈ mat, Msgs p n m
theorem MsgsM.get {p n : Int} {mat : List (List (List Int))} (h : MsgsM p n mat) {j : Nat} (hj : j < mat.length) : Msgs p n (mat.getD j []) := by
  have e : mat.getD j [] = mat[j] := by simp [hj]
  rw [e]
  exact h.rows _ (List.getElem_mem hj)
theorem stepM_msgs {s : Scn} {rd : Int} {out mat : List (List (List Int))} {d : Dev} (hp : 0 < s.P) (hf1 : 1 ≤ d.fr) (hf2 : d.fr ≤ s.N) (h : MsgsM s.P s.N mat) : MsgsM s.P s.N (stepM s rd out mat d) := by
  unfold stepM
  split
  · refine ⟨by rw [List.length_set]; exact h.len, fun m hm => ?_⟩
    rcases List.mem_or_eq_of_mem_set hm with hm | rfl
    · exact h.rows m hm
    · have := h.len
      exact rowTo_msgs hp (h.get (by omega)) _
  · exact h
theorem applyM_succ {s : Scn} {rd : Int} {out : List (List (List Int))} {i : Nat} (h : i < s.devs.length) : applyM s rd out (i + 1) = stepM s rd out (applyM s rd out i) s.devs[i] := by
  simp only [applyM, List.take_succ_eq_append_getElem h, List.foldl_append, List.foldl_cons, List.foldl_nil]
theorem applyM_msgs {s : Scn} {rd : Int} {out : List (List (List Int))} (hp : 0 < s.P) (hds : ∀ d ∈ s.devs, DevOk s.N d) (h : MsgsM s.P s.N out) : ∀ i, i ≤ s.devs.length → MsgsM s.P s.N (applyM s rd out i)
  | 0, _ => h
  | i + 1, hi => by
    rw [applyM_succ (by omega)]
    have := hds _ (List.getElem_mem (show i < s.devs.length by omega))
    exact stepM_msgs hp this.fr1 this.fr2 (applyM_msgs hp hds h i (by omega))
theorem set_getD {α : Type} (l : List α) (i : Nat) (d : α) (h : i < l.length) : l.set i (l.getD i d) = l := by
  have : l.getD i d = l[i] := by simp [h]
  rw [this, List.set_getElem_self]
theorem getD_set {α : Type} (l : List α) (i j : Nat) (x d : α) (hj : j < l.length) : (l.set i x).getD j d = if i = j then x else l.getD j d := by
  rw [List.getD_eq_getElem?_getD, List.getElem?_set, List.getD_eq_getElem?_getD]
  by_cases h : i = j
  · subst h
    simp [hj]
  · simp [h]
end Go.Proofs.YtchhpagkdaaglaaDoor.SL
