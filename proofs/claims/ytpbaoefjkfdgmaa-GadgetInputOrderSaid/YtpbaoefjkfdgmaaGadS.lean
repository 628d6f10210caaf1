/- Gadgets over pairs of bits: the walk. -/
import Derived.Test.YtpbaoefjkfdgmaaGadO
import Derived.Test.YtpbaoefjkfdgmaaSlU
set_option linter.unusedVariables false
set_option linter.unusedSimpArgs false
namespace Go.Proofs.Ytpbaoefjkfdgmaa.SL
open Go

/-- As bd_append; what lies beside the slice stays. -/
theorem bd_append2 {te : TI} {e : TypeId} {v x : Value} {n : Nat} {cs : List Value} {G0 G H : Heap} {b : Value} {p : Int} {gs : List Gate} {os : List Int} {k : Value → Heap → Prop} (hB : Bd G H b p gs os) (hg : Grown G0 G te.size e v n cs) (hz : te.zero.cells.size = te.size) (hv : x.cells.size = te.size)
    (h1 : ∀ c ∈ x.cells.toList, c.oneCell' = true) (hs : 0 < te.size) (hb : (n + 1) * te.bytes ≤ 140737488355328) (hm : n + 1 ≤ 9223372036854775807)
    (hk : ∀ v' G' H', Bd G' H' b p gs os → Grown G0 G' te.size e v' (n + 1) (cs ++ x.cells.toList) → (∀ q c, blkOf v ≠ some q → G q = some c → G' q = some c ∧ blkOf v' ≠ some q) → k v' H') :
    oBuildS te e 1 [((0, te.size), x)] H fun s H1 => oAppend te e v s H1 k := by
  have ho : Own te.size e H v n cs := hg.2.1.mono fun j hj => by
    obtain ⟨_, _, h⟩ := hg.2.1.at_ hj
    rw [h, hB.le _ _ h]
  refine append_own ho hz hv h1 hs hb hm fun s j cap hs' hjs hj hc hc2 => hk _ (hins G j (.cells (cs ++ x.cells.toList) (cap * te.size) e true)) _ ?_ ⟨?_, .inr ⟨j, cap, rfl, hc, hc2, hins_self _ _ _, ?_⟩, fun i hi => ?_⟩ fun q c hq hGq => ?_
  · have hB1 := hB.more hs' (.cells x.cells.toList te.size e true)
    rcases hj with hj | hj
    · obtain ⟨_, _, h⟩ := hg.2.1.at_ hj
      exact hB1.put (by rw [h]; simp) _
    · exact hB1.fresh (by rw [hins_other _ _ hjs]; exact hj) _
  · have hj0 : G0 j = none := by
      rcases hj with hj | hj
      · exact hg.2.2 j hj
      · exact none_le hg.1 (none_le hB.le hj)
    intro i c hi
    rw [hins_other _ _ (fun e => by subst e; rw [hj0] at hi; cases hi)]
    exact hg.1 i c hi
  · have h2 : x.cells.toList.length = te.size := by simpa using hv
    rw [List.length_append, hg.2.1.length, h2, Nat.succ_mul]
  · cases hi
    rcases hj with hj | hj
    · exact hg.2.2 _ hj
    · exact none_le hg.1 (none_le hB.le hj)
  · have hqj : q ≠ j := by
      rintro rfl
      rcases hj with hj | hj
      · exact hq hj
      · have := none_le hB.le hj
        rw [hGq] at this
        cases this
    exact ⟨by rw [hins_other _ _ hqj]; exact hGq, fun e => by cases e; exact hqj rfl⟩
/-- The bit i of x, or the zero that is made once: the bit, the zero's number or -1, the gates. -/
def pBit (x : List Int) (i : Nat) (nought : Int) (gs : List Gate) : Int × Int × List Gate :=
  if i < x.length then (x.getD i 0, nought, gs) else if nought < 0 then (gs.length, gs.length, gs ++ [⟨2, 0, 0, 0, 0⟩]) else (nought, nought, gs)
abbrev One := Int → Int → Int → List Gate → (Int × Int) × List Gate
def pPairs (one : One) (x y : List Int) : Nat → Nat → Int → Int → List Int → List Gate → (List Int × Int) × List Gate
  | 0, _, _, left, out, gs => ((out, left), gs)
  | d + 1, i, nought, left, out, gs =>
    let a := pBit x i nought gs
    let c := pBit y i a.2.1 a.2.2
    let z := one a.1 c.1 left c.2.2
    pPairs one x y d (i + 1) c.2.1 z.1.2 (out ++ [z.1.1]) z.2
/-- The function fid, bound to the builder, does one at a cost of at most n gates. -/
def Ones (fid : FuncId) (b : Value) (p : Int) (one : One) (n : Nat) : Prop := ∀ G H gs os x y s, Bd G H b p gs os → gs.length + n ≤ 1000000000 →
  RCalls Try.prog fid [b, .int .i64 x, .int .i64 y, .int .i64 s] H (Ret fun v H' => v = .tuple #[.int .i64 (one x y s gs).1.1, .int .i64 (one x y s gs).1.2] ∧ Bd G H' b p (one x y s gs).2 os) ∧ (one x y s gs).2.length ≤ gs.length + n
/-- What pairs has of its own beside the builder. -/
structure PS (G : Heap) (i20 i18 : Nat) (b : Value) (nought : Int) : Prop where
  l20 : G i20 = some (.cells [.int .i64 nought] 1 3 true)
  l18 : G i18 = some (.cells [b] 1 26 true)
theorem bit_spec {G0 G H : Heap} {b xv : Value} {p : Int} {gs : List Gate} {os : List Int} {x : List Int} {i20 i18 i : Nat} {nought : Int} (hB : Bd G H b p gs os) (hx : Sl (eInt .i64) G0 xv x) (h0 : Le G0 G) (h20 : G0 i20 = none) (hS : PS G i20 i18 b nought) (hi : i ≤ 1000000) (hn : gs.length + 1 ≤ 1000000000)
    (hv : -9223372036854775808 ≤ nought ∧ nought ≤ 9223372036854775807) :
    RCalls Try.prog 72 [xv, .int .i64 i, ptrTo i20, ptrTo i18] H (Ret fun v H' => v = .int .i64 (pBit x i nought gs).1 ∧ Bd (hins G i20 (.cells [.int .i64 (pBit x i nought gs).2.1] 1 3 true)) H' b p (pBit x i nought gs).2.2 os) := by
  have hsame : hins G i20 (.cells [.int .i64 nought] 1 3 true) = G := by
    funext j
    by_cases e : j = i20
    · subst e
      rw [hins_self, hS.l20]
    · rw [hins_other _ _ e]
  have hxH := (hx.mono h0).mono hB.le
  have ln : vLoad ty3 (ptrTo i20) H = some (.int .i64 nought) := by
    simp only [vLoad, ptrTo, hB.le _ _ hS.l20]
    rfl
  apply call72
  unfold m72
  refine oV_eq hxH.len (oV_eq (vInt_lss _ _ _) (condK_dec (fun hlt => ?_) (fun hlt => ?_)))
  · have hlt' : i < x.length := by omega
    obtain ⟨q, f1, f2⟩ := hxH.int .i64 (i := (i : Int)) (by omega) (by omega) (ti := ty3) rfl
    refine oV_eq f1 (oV_eq f2 ?_)
    simp only [pBit, if_pos hlt', hsame]
    exact ⟨rfl, hB⟩
  · have hlt' : ¬ i < x.length := by omega
    refine oV_eq ln (oV_eq (vInt_lss _ _ _) (condK_dec (fun hneg => ?_) (fun hneg => ?_)))
    · have lb : vLoad ty26 (ptrTo i18) H = some b := by
        simp only [vLoad, ptrTo, hB.le _ _ hS.l18]
        rfl
      refine oV_eq lb (oRC_ret (const_puts b p 0 _ _ _ _ hB (by omega)) fun v H' hv => ?_)
      obtain ⟨rfl, hB1⟩ := hv
      have h20' := hB1.le _ _ hS.l20
      have st : vStore ty3 (ptrTo i20) (.int .i64 (pConst 0 gs).1) H' = some (hins H' i20 (.cells [.int .i64 (pConst 0 gs).1] 1 3 true)) := by
        simp only [vStore, ptrTo, h20']
        rfl
      refine oHeap_eq st (oV_eq (v := .int .i64 (pConst 0 gs).1) ?_ ?_)
      · simp only [vLoad, ptrTo, hins_self]
        rfl
      · simp only [pBit, if_neg hlt', if_pos hneg]
        exact ⟨rfl, hB1.put (by rw [hS.l20]; simp) _⟩
    · refine oV_eq ln ?_
      simp only [pBit, if_neg hlt', if_neg hneg, hsame]
      exact ⟨rfl, hB⟩
theorem oCl_ret {X : Externs} {P : Program} {fid : FuncId} {first cap : Array Value} {args : List Value} {H : Heap} {p : List PanicEntry → Heap → Prop} {k : Value → Heap → Prop} {R : Value → Heap → Prop} (hx : X fid = none) (h : RCalls P fid (first.toList ++ args ++ cap.toList) H (Ret R)) (hk : ∀ v H', R v H' → k v H') :
    oCl X P (.func (.func fid) first cap) args H p k := by
  have := oRC_ret (p := p) h hk
  unfold oCl oCall
  simp only [hx]
  exact this
theorem grown_put {G0 G : Heap} {sz n i : Nat} {e : TypeId} {v : Value} {cs : List Value} (h : Grown G0 G sz e v n cs) (hi : G0 i = none) (hv : blkOf v ≠ some i) (c : Blk) : Grown G0 (hins G i c) sz e v n cs := by
  refine ⟨fun j d hj => ?_, h.2.1.mono fun j hj => ?_, h.2.2⟩
  · rw [hins_other _ _ (fun e => by subst e; rw [hi] at hj; cases hj)]
    exact h.1 j d hj
  · rw [hins_other _ _ (fun e => by subst e; exact hv hj)]
theorem pBit_len (x : List Int) (i : Nat) (nought : Int) (gs : List Gate) : gs.length ≤ (pBit x i nought gs).2.2.length ∧ (pBit x i nought gs).2.2.length ≤ gs.length + 1 := by
  unfold pBit
  split
  · simp
  · split <;> simp
theorem pBit_nought {x : List Int} {i : Nat} {nought : Int} {gs : List Gate} (h : -1 ≤ nought ∧ nought ≤ gs.length) : -1 ≤ (pBit x i nought gs).2.1 ∧ (pBit x i nought gs).2.1 ≤ (pBit x i nought gs).2.2.length := by
  unfold pBit
  split
  · exact h
  · split
    · simp
      omega
    · exact h
section
variable {G0 : Heap} {b xv yv : Value} {p : Int} {os : List Int} {x y : List Int} {i20 i18 n m : Nat} {one : One} {fid : FuncId}
theorem pairs_loop (hx : Sl (eInt .i64) G0 xv x) (hy : Sl (eInt .i64) G0 yv y) (h20 : G0 i20 = none) (h18 : i18 ≠ i20) (hone : Ones fid b p one n) (hmono : ∀ x y s gs, gs.length ≤ (one x y s gs).2.length) (hext : ext fid = none) (hm : m ≤ 1000000) (hn : n ≤ 100) {kn : Value → Value → Heap → Prop} {Q : Ending → Heap → Prop} :
    ∀ (d i : Nat) (G H : Heap) (v : Value) (nought left : Int) (out : List Int) (gs : List Gate), m - i = d → i ≤ m → Bd G H b p gs os → Le G0 G → PS G i20 i18 b nought → Grown G0 G 1 3 v i (icells out) → out.length = i → blkOf v ≠ some i20 → blkOf v ≠ some i18 → (-1 ≤ nought ∧ nought ≤ gs.length) → gs.length + d * (n + 2) ≤ 500000000 →
      (∀ v G H, Bd G H b p (pPairs one x y d i nought left out gs).2 os → Grown G0 G 1 3 v m (icells (pPairs one x y d i nought left out gs).1.1) → kn (.int .i64 (pPairs one x y d i nought left out gs).1.2) v H) →
      L57_3 xv yv (.int .i64 left) (.func (.func fid) #[b] #[]) (.func (.func 72) #[] #[ptrTo i20, ptrTo i18]) v (.int .i64 m) (.int .i64 i) H kn Q := by
  intro d
  induction d with
  | zero =>
    intro i G H v nought left out gs hd hi hB h0 hS hg hol hv1 hv2 hnr hb hk
    apply L57_3_round
    unfold m57_4
    refine oV_eq (vInt_lss _ _ _) (condK_dec (fun hlt => absurd hlt (by omega)) (fun _ => ?_))
    have : i = m := by omega
    subst this
    exact hk v G H hB hg
  | succ d ih =>
    intro i G H v nought left out gs hd hi hB h0 hS hg hol hv1 hv2 hnr hb hk
    apply L57_3_round
    unfold m57_4
    have hmul : (d + 1) * (n + 2) = d * (n + 2) + (n + 2) := Nat.succ_mul _ _
    refine oV_eq (vInt_lss _ _ _) (condK_dec (fun hlt => ?_) (fun hlt => absurd (by omega) hlt))
    refine oCl_ret rfl (bit_spec (i := i) hB hx h0 h20 hS (by omega) (by omega) (by omega)) fun v1 H1 hv => ?_
    obtain ⟨rfl, hB1⟩ := hv
    have hl1 := pBit_len x i nought gs
    have hn1 := pBit_nought (x := x) (i := i) hnr
    have pput : ∀ (K : Heap) (c : Int), PS K i20 i18 b nought → PS (hins K i20 (.cells [.int .i64 c] 1 3 true)) i20 i18 b c := fun K c hS => ⟨hins_self _ _ _, by rw [hins_other _ _ h18]; exact hS.l18⟩
    have h01 : Le G0 (hins G i20 (.cells [.int .i64 (pBit x i nought gs).2.1] 1 3 true)) := (grown_put hg h20 hv1 _).1
    have hS1 := pput G (pBit x i nought gs).2.1 hS
    have hg1 := grown_put hg h20 hv1 (.cells [.int .i64 (pBit x i nought gs).2.1] 1 3 true)
    generalize hins G i20 (.cells [.int .i64 (pBit x i nought gs).2.1] 1 3 true) = G1 at hB1 h01 hS1 hg1
    refine oCl_ret rfl (bit_spec (i := i) hB1 hy h01 h20 hS1 (by omega) (by omega) (by omega)) fun v2 H2 hv => ?_
    obtain ⟨rfl, hB2⟩ := hv
    have hl2 := pBit_len y i (pBit x i nought gs).2.1 (pBit x i nought gs).2.2
    have hn2 := pBit_nought (x := y) (i := i) hn1
    have hg2 := grown_put hg1 h20 hv1 (.cells [.int .i64 (pBit y i (pBit x i nought gs).2.1 (pBit x i nought gs).2.2).2.1] 1 3 true)
    have hS2 : PS (hins G1 i20 (.cells [.int .i64 (pBit y i (pBit x i nought gs).2.1 (pBit x i nought gs).2.2).2.1] 1 3 true)) i20 i18 b (pBit y i (pBit x i nought gs).2.1 (pBit x i nought gs).2.2).2.1 := ⟨hins_self _ _ _, by rw [hins_other _ _ h18]; exact hS1.l18⟩
    generalize hins G1 i20 (.cells [.int .i64 (pBit y i (pBit x i nought gs).2.1 (pBit x i nought gs).2.2).2.1] 1 3 true) = G2 at hB2 hS2 hg2
    obtain ⟨hr, hl3⟩ := hone G2 H2 _ os (pBit x i nought gs).1 (pBit y i (pBit x i nought gs).2.1 (pBit x i nought gs).2.2).1 left hB2 (by omega)
    have hl4 := hmono (pBit x i nought gs).1 (pBit y i (pBit x i nought gs).2.1 (pBit x i nought gs).2.2).1 left (pBit y i (pBit x i nought gs).2.1 (pBit x i nought gs).2.2).2.2
    refine oCl_ret hext hr fun v3 H3 hv => ?_
    obtain ⟨rfl, hB3⟩ := hv
    refine oV_eq (v := .int .i64 _) rfl (oV_eq (v := .int .i64 _) rfl ?_)
    refine bd_append2 (te := ty3) hB3 hg2 rfl rfl (fun c hc => by rw [List.mem_singleton.1 hc]; rfl) (by show 0 < 1; omega) (by show (i + 1) * 8 ≤ _; omega) (by omega) fun v4 G4 H4 hB4 hg4 hoth => ?_
    refine oV_eq (vInt_add _ _ _) ?_
    rw [wrap_i64 (by omega) (by omega)]
    have o20 := hoth i20 _ hv1 hS2.l20
    have o18 := hoth i18 _ hv2 hS2.l18
    refine ih (i + 1) G4 H4 v4 _ _ (out ++ [_]) _ (by omega) (by omega) hB4 hg4.1 ⟨o20.1, o18.1⟩ (by rw [icells, List.map_append]; exact hg4) (by simp [hol]) o20.2 o18.2 ⟨hn2.1, by omega⟩ (by omega) hk
end
def pPairsAll (one : One) (x y : List Int) (left : Int) (gs : List Gate) : (List Int × Int) × List Gate := pPairs one x y (max x.length y.length) 0 (-1) left [] gs
theorem pairs_spec {G H : Heap} {b xv yv : Value} {p left : Int} {gs : List Gate} {os : List Int} {x y : List Int} {n : Nat} {one : One} {fid : FuncId} (h : Bd G H b p gs os) (hx : Sl (eInt .i64) G xv x) (hy : Sl (eInt .i64) G yv y) (hone : Ones fid b p one n) (hmono : ∀ x y s gs, gs.length ≤ (one x y s gs).2.length)
    (hext : ext fid = none) (hlx : x.length ≤ 1000) (hly : y.length ≤ 1000) (hn : n ≤ 100) (hgl : gs.length ≤ 1000000) :
    RCalls Try.prog 57 [b, xv, yv, .int .i64 left, .func (.func fid) #[b] #[]] H (Ret fun v H' => ∃ u G', v = .tuple #[u, .int .i64 (pPairsAll one x y left gs).1.2] ∧ Bd G' H' b p (pPairsAll one x y left gs).2 os ∧ Grown G G' 1 3 u (max x.length y.length) (icells (pPairsAll one x y left gs).1.1)) := by
  apply call57
  unfold m57
  obtain ⟨jb, rfl⟩ := h.ptr
  show oNew [ptrTo jb] 1 26 H _
  intro i18 hi18
  show oNew [.int .i64 0] 1 3 _ _
  intro i20 hi20
  have hne : i18 ≠ i20 := Ne.symm (hins_none hi20).1
  have hs : vStore ty3 (ptrTo i20) (.int .i64 (-1)) (hins (hins H i18 (.cells [ptrTo jb] 1 26 true)) i20 (.cells [.int .i64 0] 1 3 true)) = some (hins (hins H i18 (.cells [ptrTo jb] 1 26 true)) i20 (.cells [.int .i64 (-1)] 1 3 true)) := by
    have : vStore ty3 (ptrTo i20) (.int .i64 (-1)) (hins (hins H i18 (.cells [ptrTo jb] 1 26 true)) i20 (.cells [.int .i64 0] 1 3 true)) = some (hins (hins (hins H i18 (.cells [ptrTo jb] 1 26 true)) i20 (.cells [.int .i64 0] 1 3 true)) i20 (.cells [.int .i64 (-1)] 1 3 true)) := by
      simp only [vStore, ptrTo, hins_self]
      rfl
    rw [this, hins_hins]
  refine oHeap_eq hs ?_
  unfold m57_2
  have hG20 : G i20 = none := none_le h.le (hins_none hi20).2
  have hG18 : G i18 = none := none_le h.le hi18
  have hB := (h.fresh hi18 (.cells [ptrTo jb] 1 26 true)).fresh hi20 (.cells [.int .i64 (-1)] 1 3 true)
  have hl : Le G (hins (hins G i18 (.cells [ptrTo jb] 1 26 true)) i20 (.cells [.int .i64 (-1)] 1 3 true)) := (Le.ins _ hG18).trans (Le.ins _ (by rw [hins_other _ _ (Ne.symm hne)]; exact hG20))
  have hS : PS (hins (hins G i18 (.cells [ptrTo jb] 1 26 true)) i20 (.cells [.int .i64 (-1)] 1 3 true)) i20 i18 (ptrTo jb) (-1) := ⟨hins_self _ _ _, by rw [hins_other _ _ hne]; exact hins_self _ _ _⟩
  generalize hins (hins G i18 (.cells [ptrTo jb] 1 26 true)) i20 (.cells [.int .i64 (-1)] 1 3 true) = G1 at hB hl hS
  generalize hins (hins H i18 (.cells [ptrTo jb] 1 26 true)) i20 (.cells [.int .i64 (-1)] 1 3 true) = H1 at hB ⊢
  have hmx : max (x.length : Int) (y.length : Int) = ((max x.length y.length : Nat) : Int) := by omega
  refine oV_eq hx.len (oV_eq hy.len (oV_eq (vMax_int _ _ _) ?_))
  rw [hmx]
  have hmul : max x.length y.length * (n + 2) ≤ 1000 * 102 := Nat.mul_le_mul (by omega) (by omega)
  refine pairs_loop (G0 := G) hx hy hG20 hne hone hmono hext (by omega) hn (max x.length y.length) 0 G1 H1 _ (-1) left [] gs (by omega) (by omega) hB hl hS ((Grown.nil G1 1 3).less hl) rfl (fun e => by cases e) (fun e => by cases e) ⟨by omega, by omega⟩ (by omega) fun v G2 H2 hB2 hg2 => ?_
  unfold m57_1
  exact ⟨v, G2, rfl, hB2, hg2⟩
end Go.Proofs.Ytpbaoefjkfdgmaa.SL
