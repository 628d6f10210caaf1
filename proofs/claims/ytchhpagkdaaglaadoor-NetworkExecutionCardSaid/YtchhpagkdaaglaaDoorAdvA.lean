/- Scenarios and deviations; membership; words; the product of the field. -/
import Derived.Test.YtchhpagkdaaglaaDoorNumR
import Derived.Laws.MathBits
set_option linter.unusedVariables false
set_option linter.unusedSimpArgs false
namespace Go.Proofs.YtchhpagkdaaglaaDoor.SL
open Go

theorem hins_hins (H : Heap) (i : Nat) (c c' : Blk) : hins (hins H i c) i c' = hins H i c' := by
  funext j
  by_cases e : j = i
  · subst e; simp
  · simp [hins_other _ _ e]
structure Dev where
  rd : Int
  fr : Int
  to_ : Int
  at_ : Int
  kd : Int
  k : Int
  of_ : Int
  src : Int
def Dev.cells (d : Dev) : List Value := [.int .i64 d.rd, .int .i64 d.fr, .int .i64 d.to_, .int .i64 d.at_, .int .i64 d.kd, .int .u64 d.k, .int .i64 d.of_, .int .i64 d.src]
def Dev.val (d : Dev) : Value := .agg #[.int .i64 d.rd, .int .i64 d.fr, .int .i64 d.to_, .int .i64 d.at_, .int .i64 d.kd, .int .u64 d.k, .int .i64 d.of_, .int .i64 d.src]
def eDev : El Dev where
  sz := 8
  rel _ d cs := cs = d.cells
  len := by rintro H x cs rfl; rfl
  mono := by rintro H G x cs _ h; exact h
structure Scn where
  P : Int
  N : Int
  T : Int
  bad : List Int
  devs : List Dev
  tapes : List (List Int)
def scnVal (s : Scn) (cv dv tv : Value) : Value := .agg #[.int .u64 s.P, .int .i64 s.N, .int .i64 s.T, cv, dv, tv]
def parVal (s : Scn) : Value := .agg #[.int .u64 s.P, .int .i64 s.N, .int .i64 s.T]
structure ScnOk (H : Heap) (s : Scn) (cv dv tv : Value) : Prop where
  bad : Sl (eInt .i64) H cv s.bad
  devs : Sl eDev H dv s.devs
  tapes : Sl (eSlice (eInt .u64)) H tv s.tapes
theorem ScnOk.mono {H G : Heap} {s : Scn} {cv dv tv : Value} (h : ScnOk H s cv dv tv) (hl : Le H G) : ScnOk G s cv dv tv := ⟨h.bad.mono hl, h.devs.mono hl, h.tapes.mono hl⟩
structure SAt (H : Heap) (i : Nat) (s : Scn) (cv dv tv : Value) : Prop where
  blk : H i = some (.cells [.int .u64 s.P, .int .i64 s.N, .int .i64 s.T, cv, dv, tv] 6 29 true)
section
variable {H G : Heap} {i : Nat} {s : Scn} {cv dv tv : Value}
theorem SAt.mono (h : SAt H i s cv dv tv) (hl : Le H G) : SAt G i s cv dv tv := ⟨hl _ _ h.blk⟩
theorem SAt.p (h : SAt H i s cv dv tv) : vLoad ty22 (.pointer (some ⟨i, 0, none⟩)) H = some (.int .u64 s.P) := by simp only [vLoad, h.blk]; rfl
theorem SAt.n (h : SAt H i s cv dv tv) : vLoad ty3 (.pointer (some ⟨i, 1, none⟩)) H = some (.int .i64 s.N) := by simp only [vLoad, h.blk]; rfl
theorem SAt.c (h : SAt H i s cv dv tv) : vLoad ty25 (.pointer (some ⟨i, 3, none⟩)) H = some cv := by simp only [vLoad, h.blk]; rfl
theorem SAt.ds (h : SAt H i s cv dv tv) : vLoad ty26 (.pointer (some ⟨i, 4, none⟩)) H = some dv := by simp only [vLoad, h.blk]; rfl
theorem SAt.t (h : SAt H i s cv dv tv) : vLoad ty27 (.pointer (some ⟨i, 5, none⟩)) H = some tv := by simp only [vLoad, h.blk]; rfl
theorem SAt.par (h : SAt H i s cv dv tv) : vLoad ty24 (.pointer (some ⟨i, 0, none⟩)) H = some (parVal s) := by simp only [vLoad, h.blk]; rfl
theorem SAt.all (h : SAt H i s cv dv tv) : vLoad ty29 (ptrTo i) H = some (scnVal s cv dv tv) := by simp only [vLoad, ptrTo, h.blk]; rfl
theorem scn_new {k : Nat → Heap → Prop} (s : Scn) (cv dv tv : Value) (hk : ∀ i H', Le H H' → SAt H' i s cv dv tv → k i H') : oNew (scnVal s cv dv tv).cells.toList (scnVal s cv dv tv).cells.toList.length 29 H k := by
  show oNew [.int .u64 s.P, .int .i64 s.N, .int .i64 s.T, cv, dv, tv] 6 29 H _
  intro i hi
  exact hk i _ (Le.ins _ hi) ⟨hins_self _ _ _⟩
structure DAt (H : Heap) (i : Nat) (d : Dev) : Prop where
  blk : H i = some (.cells d.cells 8 109 true)
variable {d : Dev}
theorem DAt.mono (h : DAt H i d) (hl : Le H G) : DAt G i d := ⟨hl _ _ h.blk⟩
theorem DAt.l0 (h : DAt H i d) : vLoad ty3 (.pointer (some ⟨i, 0, none⟩)) H = some (.int .i64 d.rd) := by simp only [vLoad, h.blk]; rfl
theorem DAt.l1 (h : DAt H i d) : vLoad ty3 (.pointer (some ⟨i, 1, none⟩)) H = some (.int .i64 d.fr) := by simp only [vLoad, h.blk]; rfl
theorem DAt.l2 (h : DAt H i d) : vLoad ty3 (.pointer (some ⟨i, 2, none⟩)) H = some (.int .i64 d.to_) := by simp only [vLoad, h.blk]; rfl
theorem DAt.l3 (h : DAt H i d) : vLoad ty3 (.pointer (some ⟨i, 3, none⟩)) H = some (.int .i64 d.at_) := by simp only [vLoad, h.blk]; rfl
theorem DAt.l4 (h : DAt H i d) : vLoad ty3 (.pointer (some ⟨i, 4, none⟩)) H = some (.int .i64 d.kd) := by simp only [vLoad, h.blk]; rfl
theorem DAt.l5 (h : DAt H i d) : vLoad ty22 (.pointer (some ⟨i, 5, none⟩)) H = some (.int .u64 d.k) := by simp only [vLoad, h.blk]; rfl
theorem DAt.l6 (h : DAt H i d) : vLoad ty3 (.pointer (some ⟨i, 6, none⟩)) H = some (.int .i64 d.of_) := by simp only [vLoad, h.blk]; rfl
theorem DAt.l7 (h : DAt H i d) : vLoad ty3 (.pointer (some ⟨i, 7, none⟩)) H = some (.int .i64 d.src) := by simp only [vLoad, h.blk]; rfl
theorem DAt.all (h : DAt H i d) : vLoad ty109 (ptrTo i) H = some d.val := by simp only [vLoad, ptrTo, h.blk]; rfl
theorem dev_new {k : Nat → Heap → Prop} (d : Dev) (hk : ∀ i H', Le H H' → DAt H' i d → k i H') : oNew d.val.cells.toList d.val.cells.toList.length 109 H k := by
  show oNew d.cells 8 109 H _
  intro i hi
  exact hk i _ (Le.ins _ hi) ⟨hins_self _ _ _⟩
/-- A local copy. -/
theorem dev_local {k : Nat → Heap → Prop} (d : Dev) (hk : ∀ i H', Le H H' → DAt H' i d → k i H') : oNew ty109.zero.cells.toList ty109.zero.cells.toList.length 109 H fun i H1 => oHeap (vStore ty109 (ptrTo i) d.val H1) fun H2 => k i H2 := by
  show oNew [.int .i64 0, .int .i64 0, .int .i64 0, .int .i64 0, .int .i64 0, .int .u64 0, .int .i64 0, .int .i64 0] 8 109 H _
  intro i hi
  have e : vStore ty109 (ptrTo i) d.val (hins H i (.cells [.int .i64 0, .int .i64 0, .int .i64 0, .int .i64 0, .int .i64 0, .int .u64 0, .int .i64 0, .int .i64 0] 8 109 true)) = some (hins (hins H i (.cells [.int .i64 0, .int .i64 0, .int .i64 0, .int .i64 0, .int .i64 0, .int .u64 0, .int .i64 0, .int .i64 0] 8 109 true)) i (.cells d.cells 8 109 true)) := by
    simp only [vStore, ptrTo, hins_self]
    rfl
  rw [e, hins_hins]
  exact hk i _ (Le.ins _ hi) ⟨hins_self _ _ _⟩
theorem Sl.dev {v : Value} {ds : List Dev} (h : Sl eDev H v ds) {i : Nat} (hi : i < ds.length) : ∃ q, vIdxS 8 v (.int .i64 i) = some q ∧ vLoad ty109 q H = some ds[i].val := by
  obtain ⟨p, cs, x, hp, hx, hr, ha⟩ := h.at_ .i64 (i := (i : Int)) (by omega) (by omega)
  cases hr
  rw [Int.toNat_natCast, List.getElem?_eq_getElem hi] at hx
  cases hx
  exact ⟨p, hp, ha.loadA rfl rfl⟩
/-! ### Membership -/
theorem index_loop {v : Value} {xs : List Int} {x : Int} (h : Sl (eInt .i64) H v xs) {kn : Heap → Prop} {Q : Ending → Heap → Prop} (hk : x ∉ xs → kn H) (hq : ∀ j : Nat, x ∈ xs → Q (.returned (.int .i64 j)) H) :
    ∀ (d i : Nat), xs.length - i = d → i ≤ xs.length → x ∉ xs.take i → L145_3 v (.int .i64 x) (.int .i64 xs.length) (.int .i64 i) H kn Q := by
  have hm := h.max
  intro d
  induction d with
  | zero =>
    intro i hd hi hn
    apply L145_3_round
    unfold m145_4
    refine oV_eq (vInt_lss _ _ _) (condK_dec (fun hlt => absurd hlt (by omega)) (fun _ => hk ?_))
    rwa [List.take_of_length_le (by omega)] at hn
  | succ d ih =>
    intro i hd hi hn
    apply L145_3_round
    unfold m145_4
    refine oV_eq (vInt_lss _ _ _) (condK_dec (fun hlt => ?_) (fun hlt => absurd (by omega) hlt))
    have hil : i < xs.length := by omega
    obtain ⟨q, f1, f2⟩ := h.int .i64 (i := (i : Int)) (by omega) (by omega) (ti := ty3) rfl
    have e : xs.getD (i : Int).toNat 0 = xs[i] := by simp [hil]
    rw [e] at f2
    refine oV_eq f1 (oV_eq f2 (oV_eq (vInt_eql _ _ _) (condK_dec (fun he => hq i (he ▸ List.getElem_mem hil)) (fun he => oV_eq (vInt_add _ _ _) ?_))))
    rw [wrap_i64 (by omega) (by omega)]
    refine ih (i + 1) (by omega) (by omega) fun hmem => ?_
    rw [List.take_succ_eq_append_getElem hil] at hmem
    rcases List.mem_append.1 hmem with hmem | hmem
    · exact hn hmem
    · exact he (List.mem_singleton.1 hmem)
theorem contains_spec {v : Value} {xs : List Int} {x : Int} (h : Sl (eInt .i64) H v xs) : RCalls Tryd.prog 134 [v, .int .i64 x] H (Val (.bool (decide (x ∈ xs))) H) := by
  apply call134
  unfold m134
  refine oRC_ret (R := fun r H' => H' = H ∧ ∃ n : Int, r = .int .i64 n ∧ decide (0 ≤ n) = decide (x ∈ xs)) (call145 _ _ _ _ ?_) fun r H' hr => ?_
  · unfold m145 m145_2
    refine oV_eq h.len (index_loop h (fun hn => ?_) (fun j hj => ⟨rfl, j, rfl, ?_⟩) _ 0 rfl (by omega) (by simp))
    · unfold m145_1
      exact ⟨rfl, -1, rfl, by rw [decide_eq_false hn]; rfl⟩
    · rw [decide_eq_true hj, decide_eq_true (by omega)]
  · obtain ⟨rfl, n, rfl, hn⟩ := hr
    refine oV_eq (vInt_geq _ _ _) ?_
    rw [hn]
    exact ⟨rfl, rfl⟩
theorem bad_loop {x : Int} (hs : SAt H i s cv dv tv) (h : Sl (eInt .i64) H cv s.bad) {kn : Heap → Prop} {Q : Ending → Heap → Prop} (hk : x ∉ s.bad → kn H) (hq : x ∈ s.bad → Q (.returned (.bool true)) H) :
    ∀ (d j : Nat), s.bad.length - j = d → j ≤ s.bad.length → x ∉ s.bad.take j → L117_3 (.int .i64 x) (ptrTo i) (.int .i64 j) H kn Q := by
  have hm := h.max
  intro d
  induction d with
  | zero =>
    intro j hd hi hn
    apply L117_3_round
    unfold m117_4
    refine oV_eq (vField_to _ _) (oV_eq hs.c (oV_eq h.len (oV_eq (vInt_lss _ _ _) (condK_dec (fun hlt => absurd hlt (by omega)) (fun _ => hk ?_)))))
    rwa [List.take_of_length_le (by omega)] at hn
  | succ d ih =>
    intro j hd hi hn
    apply L117_3_round
    unfold m117_4
    refine oV_eq (vField_to _ _) (oV_eq hs.c (oV_eq h.len (oV_eq (vInt_lss _ _ _) (condK_dec (fun hlt => ?_) (fun hlt => absurd (by omega) hlt)))))
    have hil : j < s.bad.length := by omega
    obtain ⟨q, f1, f2⟩ := h.int .i64 (i := (j : Int)) (by omega) (by omega) (ti := ty3) rfl
    have e : s.bad.getD (j : Int).toNat 0 = s.bad[j] := by simp [hil]
    rw [e] at f2
    refine oV_eq (vField_to _ _) (oV_eq hs.c (oV_eq f1 (oV_eq f2 (oV_eq (vInt_eql _ _ _) (condK_dec (fun he => hq (he ▸ List.getElem_mem hil)) (fun he => oV_eq (vInt_add _ _ _) ?_))))))
    rw [wrap_i64 (by omega) (by omega)]
    refine ih (j + 1) (by omega) (by omega) fun hmem => ?_
    rw [List.take_succ_eq_append_getElem hil] at hmem
    rcases List.mem_append.1 hmem with hmem | hmem
    · exact hn hmem
    · exact he (List.mem_singleton.1 hmem).symm
theorem bad_spec {x : Int} (h : Sl (eInt .i64) H cv s.bad) : RCalls Tryd.prog 117 [scnVal s cv dv tv, .int .i64 x] H (Grow (.bool (decide (x ∈ s.bad))) H) := by
  apply call117
  unfold m117
  refine scn_new s cv dv tv fun i H1 hl hs => ?_
  unfold m117_2
  refine bad_loop hs (h.mono hl) (fun hn => ?_) (fun hn => ?_) _ 0 rfl (by omega) (by simp)
  · unfold m117_1
    exact ⟨by rw [decide_eq_false hn], hl⟩
  · exact ⟨by rw [decide_eq_true hn], hl⟩
/-! ### Words -/
def word (l : List Int) (i : Int) : Int := if i < 0 ∨ (l.length : Int) ≤ i then 0 else l.getD i.toNat 0
theorem word_spec {v : Value} {l : List Int} (h : Sl (eInt .u64) H v l) (x : Int) : RCalls Tryd.prog 138 [v, .int .i64 x] H (Val (.int .u64 (word l x)) H) := by
  apply call138
  unfold m138
  refine oV_eq (vInt_lss _ _ _) ?_
  by_cases c : x < 0
  · rw [decide_eq_true c]
    refine condK_true ⟨?_, rfl⟩
    rw [word, if_pos (.inl c)]
  · rw [decide_eq_false c]
    refine oV_eq (v := .int .i64 x) rfl (oV_eq (v := v) rfl (oV_eq (v := .int .i64 l.length) h.len (oV_eq (v := .bool (decide ((l.length : Int) ≤ x))) (vInt_geq .i64 x (l.length : Int)) (oV_eq (v := .bool (decide ((l.length : Int) ≤ x))) rfl (condK_dec (fun c2 => ⟨?_, rfl⟩) (fun c2 => ?_))))))
    · rw [word, if_pos (.inr c2)]
    · obtain ⟨q, f1, f2⟩ := h.int .i64 (i := x) (by omega) (by omega) (ti := ty22) rfl
      refine oV_eq f1 (oV_eq f2 ⟨?_, rfl⟩)
      rw [word, if_neg (by omega)]
theorem rword_spec {v : Value} {l : List Int} (h : Sl (eInt .u64) H v l) (x : Int) : RCalls Tryd.prog 142 [v, .int .i64 x] H (Val (.int .u64 (word l x)) H) := by
  apply call142
  unfold m142
  refine oV_eq (vInt_lss _ _ _) ?_
  by_cases c : x < 0
  · rw [decide_eq_true c]
    refine condK_true ⟨?_, rfl⟩
    rw [word, if_pos (.inl c)]
  · rw [decide_eq_false c]
    refine oV_eq (v := .int .i64 x) rfl (oV_eq (v := v) rfl (oV_eq (v := .int .i64 l.length) h.len (oV_eq (v := .bool (decide ((l.length : Int) ≤ x))) (vInt_geq .i64 x (l.length : Int)) (oV_eq (v := .bool (decide ((l.length : Int) ≤ x))) rfl (condK_dec (fun c2 => ⟨?_, rfl⟩) (fun c2 => ?_))))))
    · rw [word, if_pos (.inr c2)]
    · obtain ⟨q, f1, f2⟩ := h.int .i64 (i := x) (by omega) (by omega) (ti := ty22) rfl
      refine oV_eq f1 (oV_eq f2 ⟨?_, rfl⟩)
      rw [word, if_neg (by omega)]
end
/-! ### The product -/
theorem mul64_spec (H : Heap) {x y : Int} (hx0 : 0 ≤ x) (hx : x < 18446744073709551616) (hy0 : 0 ≤ y) (hy : y < 18446744073709551616) :
    RCalls Tryd.prog 147 [.int .u64 x, .int .u64 y] H (Val (.tuple #[.int .u64 (x * y / 18446744073709551616), .int .u64 (x * y % 18446744073709551616)]) H) := by
  apply call147
  unfold m147
  have a32 : ∀ z : Int, 0 ≤ z → z ≤ 18446744073709551615 → vInt .and (.int .u64 z) (.int .u64 4294967295) = some (.int .u64 (z % 4294967296)) := fun z h0 h1 => by
    rw [vInt_and]
    have := and_low z 32 (by decide) h0 h1
    have e : ((2 : Int) ^ 32 - 1) = 4294967295 := by decide
    rw [e] at this
    show some (Value.int .u64 (IntKind.u64.wrap ((BitVec.ofInt 64 z &&& BitVec.ofInt 64 4294967295).toNat : Int))) = _
    rw [this, show ((2 : Int) ^ 32) = 4294967296 by decide, wrap_u64 (by omega) (by omega)]
  have s32 : ∀ z : Int, vInt .shr (.int .u64 z) (.int .u64 32) = some (.int .u64 (z / 4294967296)) := fun z => by
    rw [vInt_shr, if_neg (by decide), show ((2 : Int) ^ (min (32 : Int).toNat IntKind.u64.bits)) = 4294967296 from by decide, Int.fdiv_eq_ediv_of_nonneg _ (by omega)]
  have key := mul64_arith x y hx0 hx hy0 hy
  simp only [↓oV_of (a32 x hx0 (by omega)), ↓oV_of (a32 y hy0 (by omega)), ↓oV_of (s32 x), ↓oV_of (s32 y), ↓hs_mul, ↓hs_add, wrap_u64_mod, ↓oV_of (s32 _), ↓oV_of (a32 ((x / 4294967296 * (y % 4294967296) % 18446744073709551616 + x % 4294967296 * (y % 4294967296) % 18446744073709551616 / 4294967296) % 18446744073709551616) (by omega) (by omega))]
  refine ⟨?_, rfl⟩
  rw [← key]
theorem fmul_spec (H : Heap) {p a b : Int} (hp : Supp p) (ha : 0 ≤ a) (ha1 : a < 18446744073709551616) (hb : 0 ≤ b) (hb1 : b < 18446744073709551616) : RCalls Tryd.prog 139 [.int .u64 p, .int .u64 a, .int .u64 b] H (Val (.int .u64 (a * b % p)) H) := by
  apply call139
  unfold m139
  refine oRC_val (mul64_spec H ha ha1 hb hb1) ?_
  have h0 : 0 ≤ a * b := Int.mul_nonneg ha hb
  have h1 : a * b ≤ 18446744073709551615 * 18446744073709551615 := Int.mul_le_mul (by omega) (by omega) hb (by omega)
  refine oV_eq (v := .int .u64 (a * b / 18446744073709551616)) rfl (oV_eq (v := .int .u64 (a * b % 18446744073709551616)) rfl (oRC_val (fold_spec H hp (by omega) (by omega) (by omega) (by omega)) ⟨?_, rfl⟩))
  congr 2
  omega
theorem fadd_spec (H : Heap) {p a b : Int} (hp : Supp p) (ha : 0 ≤ a) (hb : 0 ≤ b) (h : a + b ≤ 18446744073709551615) : RCalls Tryd.prog 137 [.int .u64 p, .int .u64 a, .int .u64 b] H (Val (.int .u64 ((a + b) % p)) H) := by
  apply call137
  unfold m137
  refine oV_eq (vInt_add _ _ _) ?_
  rw [wrap_u64 (by omega) h]
  refine oRC_val (fold_spec H hp (by omega) (by omega) (by omega) h) ⟨?_, rfl⟩
  simp
end Go.Proofs.YtchhpagkdaaglaaDoor.SL
