/- The circuit builder: what its methods do to it. -/
import Derived.Test.YtpbaoefjkfdgmaaSlS
import Derived.Test.YtpbaoefjkfdgmaaFn0
import Derived.Test.YtpbaoefjkfdgmaaFn1
import Derived.Test.YtpbaoefjkfdgmaaFn2
set_option linter.unusedVariables false
set_option linter.unusedSimpArgs false
namespace Go.Proofs.Ytpbaoefjkfdgmaa.SL
open Go

structure Gate where
  kind : Int
  frm : Int
  a : Int
  b : Int
  k : Int
  deriving DecidableEq
def Gate.cells (g : Gate) : List Value := [.int .i64 g.kind, .int .i64 g.frm, .int .i64 g.a, .int .i64 g.b, .int .u64 g.k]
def Gate.val (g : Gate) : Value := .agg #[.int .i64 g.kind, .int .i64 g.frm, .int .i64 g.a, .int .i64 g.b, .int .u64 g.k]
theorem gate_cells (g : Gate) : g.val.cells.toList = g.cells := rfl
def eGate : El Gate where
  sz := 5
  rel _ g cs := cs = g.cells
  len := by rintro H x cs rfl; rfl
  mono := by rintro H G x cs _ h; exact h
def gcells (gs : List Gate) : List Value := gs.flatMap Gate.cells
theorem gcells_len (gs : List Gate) : (gcells gs).length = gs.length * 5 := by
  induction gs with
  | nil => rfl
  | cons g gs ih =>
    have : gcells (g :: gs) = g.cells ++ gcells gs := rfl
    rw [this, List.length_append, ih, List.length_cons]
    show 5 + _ = _
    omega
theorem gcells_snoc (gs : List Gate) (g : Gate) : gcells (gs ++ [g]) = gcells gs ++ g.cells := by simp [gcells]
theorem gcells_get : ∀ (gs : List Gate) (i : Nat) (g : Gate), gs[i]? = some g → ((gcells gs).drop (i * 5)).take 5 = g.cells
  | [], i, g, h => by simp at h
  | x :: gs, 0, g, h => by
    cases h
    rfl
  | x :: gs, i + 1, g, h => by
    have e : (gcells (x :: gs)).drop ((i + 1) * 5) = (gcells gs).drop (i * 5) := by
      show (x.cells ++ gcells gs).drop _ = _
      rw [show (i + 1) * 5 = x.cells.length + i * 5 by show _ = 5 + _; omega, ← List.drop_drop, List.drop_left]
    rw [e]
    exact gcells_get gs i g (by simpa using h)
theorem gcells_one (gs : List Gate) : ∀ v ∈ gcells gs, v.oneCell' = true := by
  intro v hv
  obtain ⟨g, _, hg⟩ := List.mem_flatMap.1 hv
  simp only [Gate.cells, List.mem_cons, List.not_mem_nil, or_false] at hg
  rcases hg with rfl | rfl | rfl | rfl | rfl <;> rfl
def icells (xs : List Int) : List Value := xs.map (.int .i64)

/-- The builder at b over the field p with the gates gs and the outputs os; nothing that G knows is its own. -/
structure Bd (G H : Heap) (b : Value) (p : Int) (gs : List Gate) (os : List Int) : Prop where
  le : Le G H
  ex : ∃ jb gv ov, b = ptrTo jb ∧ H jb = some (.cells [.int .u64 p, gv, ov] 3 74 true) ∧ G jb = none ∧
    Own 5 47 H gv gs.length (gcells gs) ∧ (∀ j, blkOf gv = some j → G j = none) ∧
    Own 1 3 H ov os.length (icells os) ∧ (∀ j, blkOf ov = some j → G j = none)
section
variable {G H : Heap} {b : Value} {p : Int} {gs : List Gate} {os : List Int}
theorem Bd.more (h : Bd G H b p gs os) {i : Nat} (hi : H i = none) (c : Blk) : Bd G (hins H i c) b p gs os := by
  obtain ⟨hle, jb, gv, ov, rfl, hb, hG, ho, hog, hp, hpg⟩ := h
  refine ⟨hle.trans (Le.ins c hi), jb, gv, ov, rfl, hins_get hi hb, hG, ho.mono fun j hj => ?_, hog, hp.mono fun j hj => ?_, hpg⟩
  · obtain ⟨_, _, h⟩ := ho.at_ hj
    rw [h, hins_get hi h]
  · obtain ⟨_, _, h⟩ := hp.at_ hj
    rw [h, hins_get hi h]
theorem Bd.less {G' : Heap} (h : Bd G H b p gs os) (hl : Le G' G) : Bd G' H b p gs os := by
  obtain ⟨hle, jb, gv, ov, rfl, hb, hG, ho, hog, hp, hpg⟩ := h
  have hn : ∀ j, G j = none → G' j = none := fun j hj => by
    cases he : G' j with
    | none => rfl
    | some c => rw [hl j c he] at hj; cases hj
  exact ⟨hl.trans hle, jb, gv, ov, rfl, hb, hn _ hG, ho, fun j hj => hn _ (hog j hj), hp, fun j hj => hn _ (hpg j hj)⟩
/-- What is new may be told beside. -/
theorem Bd.fresh (h : Bd G H b p gs os) {i : Nat} (hi : H i = none) (c : Blk) : Bd (hins G i c) (hins H i c) b p gs os := by
  obtain ⟨_, jb, gv, ov, rfl, hb, hG, ho, hog, hp, hpg⟩ := h.more hi c
  have hle : Le (hins G i c) (hins H i c) := fun j d hd => by
    by_cases e : j = i
    · subst e
      rw [hins_self] at hd ⊢
      exact hd
    · rw [hins_other _ _ e] at hd ⊢
      exact h.le j d hd
  have hn : ∀ j d, G j = none → hins H i c j = some d → j ≠ i → hins G i c j = none := fun j d hj _ e => by
    rw [hins_other _ _ e]
    exact hj
  obtain ⟨jb', gv', ov', e1, hb', _, ho', _, hp', _⟩ := h.ex
  cases e1
  rw [hins_get hi hb'] at hb
  cases hb
  refine ⟨hle, _, _, _, rfl, hins_get hi hb', by rw [hins_other _ _ (fun e => by subst e; rw [hi] at hb'; cases hb')]; exact hG, ho, fun j hj => ?_, hp, fun j hj => ?_⟩
  · obtain ⟨_, _, h1⟩ := ho'.at_ hj
    rw [hins_other _ _ (fun e => by subst e; rw [hi] at h1; cases h1)]
    exact hog j hj
  · obtain ⟨_, _, h1⟩ := hp'.at_ hj
    rw [hins_other _ _ (fun e => by subst e; rw [hi] at h1; cases h1)]
    exact hpg j hj
/-- What is beside may be written. -/
theorem Bd.put (h : Bd G H b p gs os) {i : Nat} (hi : G i ≠ none) (c : Blk) : Bd (hins G i c) (hins H i c) b p gs os := by
  obtain ⟨hle, jb, gv, ov, rfl, hb, hG, ho, hog, hp, hpg⟩ := h
  have hn : ∀ j, G j = none → j ≠ i := fun j hj e => by subst e; exact hi hj
  refine ⟨fun j d hd => ?_, jb, gv, ov, rfl, by rw [hins_other _ _ (hn _ hG)]; exact hb, by rw [hins_other _ _ (hn _ hG)]; exact hG, ho.mono fun j hj => hins_other _ _ (hn _ (hog j hj)), fun j hj => by rw [hins_other _ _ (hn _ (hog j hj))]; exact hog j hj,
    hp.mono fun j hj => hins_other _ _ (hn _ (hpg j hj)), fun j hj => by rw [hins_other _ _ (hn _ (hpg j hj))]; exact hpg j hj⟩
  by_cases e : j = i
  · subst e
    rw [hins_self] at hd ⊢
    exact hd
  · rw [hins_other _ _ e] at hd ⊢
    exact hle j d hd
theorem new_spec (H : Heap) (p : Int) : RCalls Try.prog 12 [.int .u64 p] H (Ret fun v H' => Bd H H' v p [] []) := by
  apply call12
  unfold m12
  show oNew [.int .u64 p, .slice none 0 0, .slice none 0 0] 3 74 H _
  intro i hi
  refine ⟨Le.ins _ hi, i, _, _, rfl, hins_self _ _ _, hi, .nil _ _ _, fun j hj => (by cases hj), .nil _ _ _, fun j hj => (by cases hj)⟩
theorem gate_spec (h : Bd G H b p gs os) (g : Gate) (hn : gs.length ≤ 1000000000) :
    RCalls Try.prog 50 [b, g.val] H (Ret fun v H' => v = .int .i64 gs.length ∧ Bd G H' b p (gs ++ [g]) os) := by
  apply call50
  unfold m50
  intro i1 hi1
  replace h := h.more hi1 (.cells g.val.cells.toList g.val.cells.toList.length 47 true)
  generalize hH1 : hins H i1 (.cells g.val.cells.toList g.val.cells.toList.length 47 true) = H1 at h ⊢
  have hg1 : vLoad ty47 (ptrTo i1) H1 = some g.val := by
    subst hH1
    simp only [vLoad, ptrTo, hins_self]
    rfl
  obtain ⟨hle, jb, gv, ov, rfl, hb, hG, ho, hog, hp, hpg⟩ := h
  have hl1 : vLoad ty37 (.pointer (some ⟨jb, 1, none⟩)) H1 = some gv := by
    simp only [vLoad, hb]
    rfl
  simp only [vNil_to, oV_some, vField_to, hl1, hg1]
  refine oBuildS_one (te := ty47) rfl rfl fun s hs => ?_
  refine oAppend_own (te := ty47) (cs := gcells gs) (new := g.cells) (n := gs.length) (ho.mono fun j hj => ?_) (rdSlice_ins rfl) ?_ (by omega) (by show 0 < 5; omega) (by show (gs.length + 1) * 40 ≤ _; omega) (by omega) rfl fun j cap hj hc hc2 => ?_
  · obtain ⟨_, _, h1⟩ := ho.at_ hj
    rw [h1, hins_get hs h1]
  · intro v hv
    exact gcells_one [g] v (by simpa [gcells] using hv)
  have hjb : j ≠ jb := by
    rintro rfl
    rcases hj with hj | hj
    · obtain ⟨_, _, h1⟩ := ho.at_ hj
      rw [hb] at h1
      cases h1
    · rw [hins_get hs hb] at hj
      cases hj
  have hGj : G j = none := by
    rcases hj with hj | hj
    · exact hog j hj
    · cases he : G j with
      | none => rfl
      | some c => rw [hins_get hs (hle j c he)] at hj; cases hj
  generalize hH2 : hins (hins H1 s (.cells g.val.cells.toList ty47.size 47 true)) j (.cells (gcells gs ++ g.cells) (cap * ty47.size) 47 true) = H2
  have hb2 : H2 jb = some (.cells [.int .u64 p, gv, ov] 3 74 true) := by
    rw [← hH2, hins_other _ _ (Ne.symm hjb), hins_get hs hb]
  have hstore : vStore ty37 (.pointer (some ⟨jb, 1, none⟩)) (.slice (some ⟨j, 0, none⟩) (gs.length + 1) cap) H2 = some (hins H2 jb (.cells [.int .u64 p, .slice (some ⟨j, 0, none⟩) (gs.length + 1) cap, ov] 3 74 true)) := by
    simp only [vStore, hb2]
    rfl
  simp only [hstore, oHeap_some]
  have hload : vLoad ty37 (.pointer (some ⟨jb, 1, none⟩)) (hins H2 jb (.cells [.int .u64 p, .slice (some ⟨j, 0, none⟩) (gs.length + 1) cap, ov] 3 74 true)) = some (.slice (some ⟨j, 0, none⟩) (gs.length + 1) cap) := by
    simp only [vLoad, hins_self]
    rfl
  simp only [hload, oV_some, vLen_slice, vInt_sub]
  rw [wrap_i64 (by omega) (by omega)]
  refine ⟨by congr 1; omega, ?_, jb, _, ov, rfl, hins_self _ _ _, hG, ?_, ?_, ?_, hpg⟩
  · intro x c hc
    have hxb : x ≠ jb := by rintro rfl; rw [hG] at hc; cases hc
    have hxj : x ≠ j := by rintro rfl; rw [hGj] at hc; cases hc
    rw [hins_other _ _ hxb, ← hH2, hins_other _ _ hxj, hins_get hs (hle x c hc)]
  · refine .inr ⟨j, cap, by rw [List.length_append]; rfl, by rw [List.length_append]; exact hc, hc2, ?_, gcells_len _⟩
    rw [hins_other _ _ hjb, ← hH2, hins_self, gcells_snoc]
    rfl
  · intro x hx
    cases hx
    exact hGj
  · refine hp.mono fun x hx => ?_
    obtain ⟨_, _, h1⟩ := hp.at_ hx
    have hxb : x ≠ jb := by rintro rfl; rw [hb] at h1; cases h1
    have hxj : x ≠ j := by
      rintro rfl
      rcases hj with hj | hj
      · obtain ⟨_, _, h2⟩ := ho.at_ hj
        rw [h1] at h2
        cases h2
      · rw [hins_get hs h1] at hj; cases hj
    rw [hins_other _ _ hxb, ← hH2, hins_other _ _ hxj, hins_get hs h1, h1]
theorem output_spec (h : Bd G H b p gs os) (x : Int) (hn : os.length ≤ 1000000000) :
    RCalls Try.prog 14 [b, .int .i64 x] H (Ret fun v H' => Bd G H' b p gs (os ++ [x])) := by
  apply call14
  unfold m14
  obtain ⟨hle, jb, gv, ov, rfl, hb, hG, ho, hog, hp, hpg⟩ := h
  have hl1 : vLoad ty38 (.pointer (some ⟨jb, 2, none⟩)) H = some ov := by
    simp only [vLoad, hb]
    rfl
  simp only [vNil_to, oV_some, vField_to, hl1]
  refine oBuildS_one (te := ty3) rfl rfl fun s hs => ?_
  refine oAppend_own (te := ty3) (cs := icells os) (new := [.int .i64 x]) (n := os.length) (hp.mono fun j hj => ?_) (rdSlice_ins rfl) ?_ (by omega) (by show 0 < 1; omega) (by show (os.length + 1) * 8 ≤ _; omega) (by omega) rfl fun j cap hj hc hc2 => ?_
  · obtain ⟨_, _, h1⟩ := hp.at_ hj
    rw [h1, hins_get hs h1]
  · intro v hv
    simp only [List.mem_singleton] at hv
    subst hv
    rfl
  have hjb : j ≠ jb := by
    rintro rfl
    rcases hj with hj | hj
    · obtain ⟨_, _, h1⟩ := hp.at_ hj
      rw [hb] at h1
      cases h1
    · rw [hins_get hs hb] at hj
      cases hj
  have hGj : G j = none := by
    rcases hj with hj | hj
    · exact hpg j hj
    · cases he : G j with
      | none => rfl
      | some c => rw [hins_get hs (hle j c he)] at hj; cases hj
  generalize hH2 : hins (hins H s (.cells (Value.int .i64 x).cells.toList ty3.size 3 true)) j (.cells (icells os ++ [.int .i64 x]) (cap * ty3.size) 3 true) = H2
  have hb2 : H2 jb = some (.cells [.int .u64 p, gv, ov] 3 74 true) := by
    rw [← hH2, hins_other _ _ (Ne.symm hjb), hins_get hs hb]
  have hstore : vStore ty38 (.pointer (some ⟨jb, 2, none⟩)) (.slice (some ⟨j, 0, none⟩) (os.length + 1) cap) H2 = some (hins H2 jb (.cells [.int .u64 p, gv, .slice (some ⟨j, 0, none⟩) (os.length + 1) cap] 3 74 true)) := by
    simp only [vStore, hb2]
    rfl
  simp only [hstore, oHeap_some]
  refine ⟨?_, jb, gv, _, rfl, hins_self _ _ _, hG, ?_, hog, ?_, ?_⟩
  · intro x c hc
    have hxb : x ≠ jb := by rintro rfl; rw [hG] at hc; cases hc
    have hxj : x ≠ j := by rintro rfl; rw [hGj] at hc; cases hc
    rw [hins_other _ _ hxb, ← hH2, hins_other _ _ hxj, hins_get hs (hle x c hc)]
  · refine ho.mono fun x hx => ?_
    obtain ⟨_, _, h1⟩ := ho.at_ hx
    have hxb : x ≠ jb := by rintro rfl; rw [hb] at h1; cases h1
    have hxj : x ≠ j := by
      rintro rfl
      rcases hj with hj | hj
      · obtain ⟨_, _, h2⟩ := hp.at_ hj
        rw [h1] at h2
        cases h2
      · rw [hins_get hs h1] at hj; cases hj
    rw [hins_other _ _ hxb, ← hH2, hins_other _ _ hxj, hins_get hs h1, h1]
  · refine .inr ⟨j, cap, by rw [List.length_append]; rfl, by rw [List.length_append]; exact hc, hc2, ?_, by simp [icells]⟩
    rw [hins_other _ _ hjb, ← hH2, hins_self]
    simp [icells, ty3]
  · intro x hx
    cases hx
    exact hGj
/-- A method that adds gates: what it gives and the gates behind. -/
def Puts (f : FuncId) (args : List Value) (b : Value) (p : Int) (pf : List Gate → Int × List Gate) (cost : Nat) : Prop :=
  ∀ G H gs os, Bd G H b p gs os → gs.length + cost ≤ 1000000000 → RCalls Try.prog f args H (Ret fun v H' => v = .int .i64 (pf gs).1 ∧ Bd G H' b p (pf gs).2 os)
def put (g : Gate) (gs : List Gate) : Int × List Gate := (gs.length, gs ++ [g])
def pIn (from_ : Int) (bit : Bool) := put ⟨1, from_, 0, 0, if bit then 1 else 0⟩
def pConst (k : Int) := put ⟨2, 0, 0, 0, k⟩
def pAdd (x y : Int) := put ⟨3, 0, x, y, 0⟩
def pSub (x y : Int) := put ⟨4, 0, x, y, 0⟩
def pScale (k x : Int) := put ⟨5, 0, x, 0, k⟩
def pMul (x y : Int) := put ⟨6, 0, x, y, 0⟩
def pNot (x : Int) (gs : List Gate) : Int × List Gate :=
  let r := pConst 1 gs
  pSub r.1 x r.2
def pOr (x y : Int) (gs : List Gate) : Int × List Gate :=
  let r := pAdd x y gs
  let s := pMul x y r.2
  pSub r.1 s.1 s.2
def pWithout (x y both : Int) (gs : List Gate) : Int × List Gate :=
  let r := pAdd x y gs
  let s := pScale 2 both r.2
  pSub r.1 s.1 s.2
def pXor (x y : Int) (gs : List Gate) : Int × List Gate :=
  let r := pMul x y gs
  pWithout x y r.1 r.2
def pSelect (c x y : Int) (gs : List Gate) : Int × List Gate :=
  let r := pSub x y gs
  let s := pMul c r.1 r.2
  pAdd y s.1 s.2
@[simp] theorem put_len (g : Gate) (gs : List Gate) : (put g gs).2.length = gs.length + 1 := by simp [put]
variable (b p)
theorem input_puts (f : Int) (bit : Bool) : Puts 13 [b, .int .i64 f, .bool bit] b p (pIn f bit) 1 := by
  intro G H gs os h hn
  apply call13
  unfold m13
  rw [show vBuild ty47 [((0, 1), .int .i64 1), ((1, 1), .int .i64 f)] = some (.agg #[.int .i64 1, .int .i64 f, .int .i64 0, .int .i64 0, .int .u64 0]) from rfl, oV_some]
  show oNew [.int .i64 0, .int .i64 0, .int .i64 0, .int .i64 0, .int .u64 0] 5 47 H _
  intro i hi
  have e1 : vStore ty47 (ptrTo i) (.agg #[.int .i64 1, .int .i64 f, .int .i64 0, .int .i64 0, .int .u64 0]) (hins H i (.cells [.int .i64 0, .int .i64 0, .int .i64 0, .int .i64 0, .int .u64 0] 5 47 true))
      = some (hins (hins H i (.cells [.int .i64 0, .int .i64 0, .int .i64 0, .int .i64 0, .int .u64 0] 5 47 true)) i (.cells [.int .i64 1, .int .i64 f, .int .i64 0, .int .i64 0, .int .u64 0] 5 47 true)) := by
    simp only [vStore, ptrTo, hins_self]
    rfl
  have hh : ∀ c c' : Blk, hins (hins H i c) i c' = hins H i c' := fun c c' => by
    funext j
    by_cases e : j = i
    · subst e; simp
    · simp [hins_other _ _ e]
  rw [e1, hh]
  cases bit with
  | true =>
    refine condK_true ?_
    have e2 : vStore ty22 (.pointer (some ⟨i, 4, none⟩)) (.int .u64 1) (hins H i (.cells [.int .i64 1, .int .i64 f, .int .i64 0, .int .i64 0, .int .u64 0] 5 47 true)) = some (hins (hins H i (.cells [.int .i64 1, .int .i64 f, .int .i64 0, .int .i64 0, .int .u64 0] 5 47 true)) i (.cells [.int .i64 1, .int .i64 f, .int .i64 0, .int .i64 0, .int .u64 1] 5 47 true)) := by
      simp only [vStore, hins_self]
      rfl
    simp only [vField_to, oV_some, e2, hh, oHeap_some]
    have e3 : vLoad ty47 (ptrTo i) (hins H i (.cells [.int .i64 1, .int .i64 f, .int .i64 0, .int .i64 0, .int .u64 1] 5 47 true)) = some (Gate.val ⟨1, f, 0, 0, 1⟩) := by
      simp only [vLoad, ptrTo, hins_self]
      rfl
    rw [e3, oV_some]
    exact oRC_ret (gate_spec (h.more hi _) ⟨1, f, 0, 0, 1⟩ (by omega)) fun v H' r => r
  | false =>
    refine condK_false ?_
    have e3 : vLoad ty47 (ptrTo i) (hins H i (.cells [.int .i64 1, .int .i64 f, .int .i64 0, .int .i64 0, .int .u64 0] 5 47 true)) = some (Gate.val ⟨1, f, 0, 0, 0⟩) := by
      simp only [vLoad, ptrTo, hins_self]
      rfl
    rw [e3, oV_some]
    exact oRC_ret (gate_spec (h.more hi _) ⟨1, f, 0, 0, 0⟩ (by omega)) fun v H' r => r
theorem const_puts (k : Int) : Puts 19 [b, .int .u64 k] b p (pConst k) 1 := fun G H gs os h hn =>
  call19 _ _ _ _ (oRC_ret (gate_spec h ⟨2, 0, 0, 0, k⟩ (by omega)) fun v H' r => r)
theorem add_puts (x y : Int) : Puts 15 [b, .int .i64 x, .int .i64 y] b p (pAdd x y) 1 := fun G H gs os h hn =>
  call15 _ _ _ _ _ (oRC_ret (gate_spec h ⟨3, 0, x, y, 0⟩ (by omega)) fun v H' r => r)
theorem sub_puts (x y : Int) : Puts 16 [b, .int .i64 x, .int .i64 y] b p (pSub x y) 1 := fun G H gs os h hn =>
  call16 _ _ _ _ _ (oRC_ret (gate_spec h ⟨4, 0, x, y, 0⟩ (by omega)) fun v H' r => r)
theorem mul_puts (x y : Int) : Puts 17 [b, .int .i64 x, .int .i64 y] b p (pMul x y) 1 := fun G H gs os h hn =>
  call17 _ _ _ _ _ (oRC_ret (gate_spec h ⟨6, 0, x, y, 0⟩ (by omega)) fun v H' r => r)
theorem scale_puts (k x : Int) : Puts 18 [b, .int .u64 k, .int .i64 x] b p (pScale k x) 1 := fun G H gs os h hn =>
  call18 _ _ _ _ _ (oRC_ret (gate_spec h ⟨5, 0, x, 0, k⟩ (by omega)) fun v H' r => r)
theorem not_puts (x : Int) : Puts 28 [b, .int .i64 x] b p (pNot x) 2 := fun G H gs os h hn =>
  call28 _ _ _ _ (oRC_ret (const_puts b p 1 _ _ _ _ h (by omega)) fun v H' ⟨e, h⟩ => by
    subst e
    exact oRC_ret (sub_puts b p _ x _ _ _ _ h (by simp [pConst]; omega)) fun v H' r => r)
theorem and_puts (x y : Int) : Puts 29 [b, .int .i64 x, .int .i64 y] b p (pMul x y) 1 := fun G H gs os h hn =>
  call29 _ _ _ _ _ (oRC_ret (mul_puts b p x y _ _ _ _ h (by omega)) fun v H' r => r)
theorem or_puts (x y : Int) : Puts 30 [b, .int .i64 x, .int .i64 y] b p (pOr x y) 3 := fun G H gs os h hn =>
  call30 _ _ _ _ _ (oRC_ret (add_puts b p x y _ _ _ _ h (by omega)) fun v H' ⟨e, h⟩ => by
    subst e
    refine oRC_ret (mul_puts b p x y _ _ _ _ h (by simp [pAdd]; omega)) fun v H' ⟨e, h⟩ => ?_
    subst e
    exact oRC_ret (sub_puts b p _ _ _ _ _ _ h (by simp [pAdd, pMul]; omega)) fun v H' r => r)
theorem select_puts (c x y : Int) : Puts 32 [b, .int .i64 c, .int .i64 x, .int .i64 y] b p (pSelect c x y) 3 := fun G H gs os h hn =>
  call32 _ _ _ _ _ _ (oRC_ret (sub_puts b p x y _ _ _ _ h (by omega)) fun v H' ⟨e, h⟩ => by
    subst e
    refine oRC_ret (mul_puts b p c _ _ _ _ _ h (by simp [pSub]; omega)) fun v H' ⟨e, h⟩ => ?_
    subst e
    exact oRC_ret (add_puts b p y _ _ _ _ _ h (by simp [pSub, pMul]; omega)) fun v H' r => r)
end
end Go.Proofs.Ytpbaoefjkfdgmaa.SL
