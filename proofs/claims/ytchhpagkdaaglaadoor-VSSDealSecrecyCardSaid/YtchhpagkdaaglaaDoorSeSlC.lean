/- Part 3 of the proof of LawSe: SlC, one behind the other. -/
import Derived.Test.YtchhpagkdaaglaaDoorSeSlB
import Derived.Tactics
import Derived.Laws.Slices
import Derived.Laws.Small
import Derived.Laws.Strings
set_option linter.unusedVariables false
set_option linter.unusedSimpArgs false
namespace Go.Proofs.YtchhpagkdaaglaaDoor.SL
open Go

section
variable {P : Program} {w : World}

theorem run_equalIn_slice_nil {t e : TypeId} (hu : P.underlying t = some (.slice e)) (d : Nat) (a : Option Addr) (l c l' c' : Nat) : (Op.equalIn (d + 1) t (.slice a l c) (.slice none l' c')).run P w = .ok a.isNone w := by
  cases a <;> simp only [Op.equalIn, Sem.run_bind, run_underlying hu, Result.andThen_ok] <;> rfl
theorem run_equal_slice_nil {t e : TypeId} (hu : P.underlying t = some (.slice e)) (a : Option Addr) (l c l' c' : Nat) : (Op.equal t (.slice a l c) (.slice none l' c')).run P w = .ok a.isNone w :=
  run_equalIn_slice_nil hu 9999 a l c l' c'
theorem run_sliceBound' {y n : Nat} {v : Value} {code : BoundsCode} (h : vBound y v = some n) : (Instr.sliceBound v y code).run P w = .ok n w := by
  unfold vBound at h
  split at h
  · split at h
    · rename_i hb
      cases h
      simp [Instr.sliceBound, asIntOf, hb]
    · cases h
  · cases h

theorem run_vBin {tk : TK} {op : BinOp} {t : TypeId} {ti : TI} {x y : Operand} {a b v : Value} (ht : TIok P t ti) (hk : ti.kind = tk) (h : vBin tk op a b = some v) :
    (do eqGuard op t x y a b; binOp op t a b : Sem Value).run P w = .ok v w := by
  unfold vBin at h
  cases tk <;> simp only at h <;> try (cases h; done)
  case int k => exact run_vInt h
  case bool =>
    have hu := ht.bool hk
    cases a <;> cases b <;> cases op <;> simp only [vBoolOp] at h <;> try (cases h; done)
    all_goals
      cases h
      simp [eqGuard, binOp, run_equal_bool _ _ _ _ hu]
  case slice e =>
    have hu := ht.slice hk
    cases a <;> cases b <;> cases op <;> simp only [vNilOp] at h <;> try (cases h; done)
    all_goals
      rename_i a1 _ _ b1 _ _
      cases b1 <;> simp only at h <;> try (cases h; done)
      cases h
      simp [eqGuard, binOp, run_equal_slice_nil hu]
  case string =>
    have hu := ht.string hk
    cases a <;> cases b <;> cases op <;> simp only [vStrOp] at h <;> try (cases h; done)
    all_goals
      cases h
      simp [eqGuard, binOp, Op.stringOp]

theorem run_part_int {t : TypeId} {k : IntKind} (hu : P.underlying t = some (.int k)) {xs : Array Value} {i : Nat} {v : Value} (h : xs[i]? = some v) : (part t xs i).run P w = .ok v w := by
  unfold part
  simp [isAgg, run_underlying hu, h]
theorem run_eqFields (d : Nat) (xs ys : Array Value) : ∀ (fs : List Field) (n : Nat) (r : Bool),
    ((fs.zipIdx n).all fun q => !(q.1.name == "_") && (q.1.offset == q.2) && (match P.underlying q.1.type with | some (.int _) => true | _ => false)) = true → fs.length + n = xs.size → fs.length + n = ys.size →
    eqCells (xs.toList.drop n) (ys.toList.drop n) = some r → (Op.eqFields (d + 1) xs ys fs).run P w = .ok r w
  | [], n, r, _, h1, h2, h => by
    have e1 : xs.toList.drop n = [] := List.drop_eq_nil_of_le (by simp at h1 ⊢; omega)
    have e2 : ys.toList.drop n = [] := List.drop_eq_nil_of_le (by simp at h2 ⊢; omega)
    rw [e1, e2] at h
    simp only [eqCells] at h
    cases h
    simp [Op.eqFields]
  | f :: fs, n, r, ha, h1, h2, h => by
    simp only [List.zipIdx_cons, List.all_cons, Bool.and_eq_true] at ha
    obtain ⟨⟨⟨g1, g2⟩, g3⟩, ha⟩ := ha
    simp only [List.length_cons] at h1 h2
    have hx : n < xs.size := by omega
    have hy : n < ys.size := by omega
    rw [List.drop_eq_getElem_cons (l := xs.toList) (i := n) (by simpa using hx), List.drop_eq_getElem_cons (l := ys.toList) (i := n) (by simpa using hy)] at h
    simp only [Array.getElem_toList] at h
    split at g3
    case h_2 => cases g3
    rename_i k hu
    have hoff : f.offset = n := by simpa using g2
    have hnm : f.name ≠ "_" := by simpa using g1
    cases hvx : xs[n] <;> cases hvy : ys[n] <;> rw [hvx, hvy] at h <;> simp only [eqCells] at h <;> try (cases h; done)
    rename_i k1 a k2 b
    split at h
    case isFalse => cases h
    rename_i hk
    subst hk
    obtain ⟨s, hs, rfl⟩ := Option.map_eq_some_iff.1 h
    have ih := run_eqFields d xs ys fs (n + 1) s ha (by omega) (by omega) hs
    have px : (part f.type xs f.offset).run P w = .ok (.int k1 a) w := run_part_int hu (by rw [hoff]; simp [hx, hvx])
    have py : (part f.type ys f.offset).run P w = .ok (.int k1 b) w := run_part_int hu (by rw [hoff]; simp [hy, hvy])
    have he := run_equalIn_int w d f.type k1 k a b hu
    rw [Op.eqFields]
    simp only [if_pos hnm, Sem.run_bind, px, py, he, Result.andThen_ok]
    cases hab : (a == b)
    · simp
    · simpa using ih
theorem run_vBinT {op : BinOp} {t : TypeId} {ti : TI} {x y : Operand} {a b v : Value} (ht : TIok P t ti) (h : vBinT ti op a b = some v) : (do eqGuard op t x y a b; binOp op t a b : Sem Value).run P w = .ok v w := by
  unfold vBinT at h
  split at h
  · split at h
    · cases h
    · rename_i hfl
      obtain ⟨f1, f2, f3, f4, f5⟩ := ht.2.2 hfl
      have key : ∀ (xs ys : Array Value) (r : Bool), xs.size = ti.flat ∧ ys.size = ti.flat → eqCells xs.toList ys.toList = some r → (Op.equalIn 10000 t (.agg xs) (.agg ys)).run P w = .ok r w := by
        intro xs ys r hsz hr
        have := run_equalIn_struct (P := P) w 9999 t xs ys f3 f1
        rw [show (10000 : Nat) = 9999 + 1 from rfl, this]
        exact run_eqFields 9998 xs ys _ 0 r f5 (by omega) (by omega) (by simpa using hr)
      unfold vAggOp at h
      split at h
      · rename_i xs ys
        split at h
        · rename_i hsz
          obtain ⟨r, hr, rfl⟩ := Option.map_eq_some_iff.1 h
          simp only [Sem.run_bind, run_eqGuard_agg w _ _ _ _ _ _ f2, Result.andThen_ok, run_eql_struct, key xs ys r hsz hr]
        · cases h
      · rename_i xs ys
        split at h
        · rename_i hsz
          obtain ⟨r, hr, rfl⟩ := Option.map_eq_some_iff.1 h
          simp only [Sem.run_bind, run_eqGuard_agg w _ _ _ _ _ _ f2, Result.andThen_ok, run_neq_struct, key xs ys r hsz hr]
        · cases h
      · cases h
  · exact run_vBin ht rfl h

theorem run_vUn {op : UnOp} {a v : Value} (h : vUn op a = some v) : (Op.unary op a).run P w = .ok v w := by
  cases a <;> cases op <;> simp only [vUn] at h <;> try (cases h; done)
  all_goals
    cases h
    simp [Op.unary, Op.intArith, Op.intBits]

theorem run_vConv {src dst : TypeId} {ts td : TI} {a v : Value} (hs : TIok P src ts) (hd : TIok P dst td) (h : vConv td.kind a = some v) : (convert src dst a).run P w = .ok v w := by
  unfold vConv at h
  split at h
  · rename_i k k' n hk
    cases h
    have hu := hd.int hk
    obtain ⟨d, hsd, _⟩ := hs.desc
    cases d <;> simp [convert, run_underlying hsd, run_underlying hu, Conv.intToInt]
  · cases h

theorem run_sureAddr (a : Addr) : (Instr.sureAddr (.pointer (some a))).run P w = .ok a w := rfl

theorem run_vField {s : TypeId} {fs : List (Nat × TypeId)} {ts tf : TI} {f fo : Nat} {ft : TypeId} {x v : Value} (hs : TIok P s ts) (hk : ts.kind = .struct fs) (hf : fs[f]? = some (fo, ft))
    (ht : TIok P ft tf) (hz : tf.size ≠ 0) (h : qYZ fo x = some v) : (Instr.fieldAt s x f).run P w = .ok v w := by
  obtain ⟨fields, hu, rfl⟩ := hs.struct hk
  rw [List.getElem?_map, Option.map_eq_some_iff] at hf
  obtain ⟨fld, hfl, he⟩ := hf
  simp only [Prod.mk.injEq] at he
  obtain ⟨rfl, rfl⟩ := he
  have hfl' : fields[f]? = some fld := by simpa using hfl
  unfold qYZ at h
  split at h
  · rename_i i off
    cases h
    simp [Instr.fieldAt, run_underlying hu, hfl', run_sureAddr, fieldPlace, ht.run_size, hz, addr_add]
  · cases h

theorem run_vIdxS {t e : TypeId} {ti te : TI} {x ix v : Value} (ht : TIok P t ti) (hk : ti.kind = .slice e) (he : TIok P e te) (h : p1Z te.size x ix = some v) : (Instr.indexAt t x ix).run P w = .ok v w := by
  have hu := ht.slice hk
  unfold p1Z at h
  split at h
  · rename_i i off len cap k n
    split at h
    · rename_i hn
      cases h
      simp [Instr.indexAt, asIntOf, run_underlying hu, hn, he.run_size, addr_add]
    · cases h
  · cases h

theorem run_vIdxA {t e : TypeId} {len : Nat} {ti te : TI} {x ix v : Value} (ht : TIok P t ti) (hk : ti.kind = .array len e) (he : TIok P e te) (h : vIdxA len te.size x ix = some v) : (Instr.indexAt t x ix).run P w = .ok v w := by
  have hu := ht.array hk
  unfold vIdxA at h
  split at h
  · rename_i i off k n
    split at h
    · rename_i hn
      cases h
      simp [Instr.indexAt, asIntOf, run_underlying hu, run_sureAddr, hn, he.run_size, addr_add]
    · cases h
  · cases h

theorem run_vPart {t : TypeId} {ti : TI} {cs : Array Value} {off : Nat} {v : Value} (ht : TIok P t ti) (h : vPart ti.agg off ti.size (.agg cs) = some v) : (part t cs off).run P w = .ok v w := by
  unfold vPart at h
  simp only at h
  unfold part
  simp only [Sem.run_bind, ht.run_isAgg, Result.andThen_ok]
  cases ha : ti.agg with
  | true =>
    rw [ha, if_pos rfl] at h
    cases h
    simp [ht.run_size]
  | false =>
    rw [ha] at h
    simp only [Bool.false_eq_true, if_false] at h ⊢
    simp [h]

theorem run_vFieldV {s : TypeId} {fs : List (Nat × TypeId)} {ts tf : TI} {f fo : Nat} {ft : TypeId} {x v : Value} (hs : TIok P s ts) (hk : ts.kind = .struct fs) (hf : fs[f]? = some (fo, ft))
    (ht : TIok P ft tf) (h : vPart tf.agg fo tf.size x = some v) : (Instr.field s x f).run P w = .ok v w := by
  obtain ⟨fields, hu, rfl⟩ := hs.struct hk
  rw [List.getElem?_map, Option.map_eq_some_iff] at hf
  obtain ⟨fld, hfl, he⟩ := hf
  simp only [Prod.mk.injEq] at he
  obtain ⟨rfl, rfl⟩ := he
  have hfl' : fields[f]? = some fld := by simpa using hfl
  cases x <;> try (simp [vPart] at h; done)
  rename_i cs
  have := run_vPart (w := w) ht h
  simp [Instr.field, run_underlying hu, hfl', asAgg, this]

theorem run_vIndexA {t e : TypeId} {len : Nat} {ti te : TI} {x ix v : Value} (ht : TIok P t ti) (hk : ti.kind = .array len e) (he : TIok P e te) (h : vIndexA te.agg len te.size x ix = some v) : (Instr.index t x ix).run P w = .ok v w := by
  have hu := ht.array hk
  unfold vIndexA at h
  split at h
  · rename_i k n
    split at h
    · rename_i hn
      cases x <;> try (simp [vPart] at h; done)
      rename_i cs
      have := run_vPart (w := w) he h
      simp [Instr.index, asIntOf, run_underlying hu, hn, he.run_size, this]
    · cases h
  · cases h

theorem run_vIndexStr {t : TypeId} {ti : TI} {x ix v : Value} (ht : TIok P t ti) (hk : ti.kind = .string) (h : vIndexStr x ix = some v) : (Instr.index t x ix).run P w = .ok v w := by
  have hu := ht.string hk
  unfold vIndexStr at h
  split at h
  · rename_i s k n
    split at h
    · rename_i hn
      cases h
      have : s[n.toNat]? = some (s[n.toNat]'hn.2) := by simp [hn.2]
      simp [Instr.index, asIntOf, run_underlying hu, hn.1, this]
    · cases h
  · cases h

theorem run_vExtract {x v : Value} {i : Nat} (h : p0Z x i = some v) : (Instr.extract x i).run P w = .ok v w := by
  unfold p0Z at h
  split at h
  · simp [Instr.extract, h]
  · cases h

theorem run_vLen {t ty e : TypeId} {ti : TI} {x v : Value} (ht : TIok P t ti) (hk : ti.kind = .slice e) (h : vLen x = some v) : (Builtin.len_ #[t] ty #[x]).run P w = .ok v w := by
  have hu := ht.slice hk
  unfold vLen at h
  split at h
  · cases h
    simp [Builtin.len_, run_underlying hu, goInt]
  · cases h
theorem run_vLenStr {t ty : TypeId} {ti : TI} {x v : Value} (ht : TIok P t ti) (hk : ti.kind = .string) (h : vLenStr x = some v) : (Builtin.len_ #[t] ty #[x]).run P w = .ok v w := by
  have hu := ht.string hk
  unfold vLenStr at h
  split at h
  · cases h
    simp [Builtin.len_, run_underlying hu, goInt]
  · cases h
theorem run_vMax {ts : Array TypeId} {ty : TypeId} {x y v : Value} (h : vMax x y = some v) : (Builtin.max_ ts ty #[x, y]).run P w = .ok v w := by
  unfold vMax at h
  split at h
  · cases h
    exact run_max_int2 _ _ _ _ _ _ _
  · cases h
theorem run_vMin {ts : Array TypeId} {ty : TypeId} {x y v : Value} (h : vMin x y = some v) : (Builtin.min_ ts ty #[x, y]).run P w = .ok v w := by
  unfold vMin at h
  split at h
  · cases h
    exact run_min_int2 _ _ _ _ _ _ _
  · cases h

theorem run_vSlice {t e : TypeId} {ti te : TI} {x v : Value} {lo hi mx : Option Value} (ht : TIok P t ti) (hk : ti.kind = .slice e) (he : TIok P e te) (h : vSlice te.size x lo hi mx = some v) :
    (Instr.sliceAt t x lo hi mx).run P w = .ok v w := by
  have hu := ht.slice hk
  cases x <;> try (simp [vSlice] at h; done)
  rename_i a len cap
  simp only [vSlice, Option.bind_eq_some_iff] at h
  obtain ⟨m, hm, h', hh, l, hl, h⟩ := h
  have hb : (Instr.sliceBounds true len cap lo hi mx).run P w = .ok (l, h', m) w := by
    unfold Instr.sliceBounds
    cases mx with
    | none =>
      cases hm
      cases hi with
      | none =>
        cases hh
        cases lo with
        | none => cases hl; simp
        | some vl => simp [run_sliceBound' hl]
      | some vh =>
        cases lo with
        | none => cases hl; simp [run_sliceBound' hh]
        | some vl => simp [run_sliceBound' hh, run_sliceBound' hl]
    | some vm =>
      cases hi with
      | none => cases hh
      | some vh =>
        cases lo with
        | none => cases hl; simp [run_sliceBound' hm, run_sliceBound' hh]
        | some vl => simp [run_sliceBound' hm, run_sliceBound' hh, run_sliceBound' hl]
  have hs : (Instr.slice t (.slice a len cap) lo hi mx).run P w = .ok (.slice (if m = l then a else a.map (·.add (l * te.size))) (h' - l) (m - l)) w := by
    simp [Instr.slice, run_underlying hu, hb, he.run_size]
  have hat : (Instr.sliceAt t (.slice a len cap) lo hi mx).run P w = (Instr.slice t (.slice a len cap) lo hi mx).run P w := by
    simp [Instr.sliceAt, run_underlying hu]
  rw [hat, hs]
  cases a with
  | none =>
    simp only at h
    cases h
    simp
  | some ad =>
    obtain ⟨i, off, spot⟩ := ad
    cases spot with
    | some _ => cases h
    | none =>
      simp only at h
      cases h
      by_cases hml : m = l
      · simp [hml]
      · simp [hml, addr_add]

theorem foldl_set (off : Nat) : ∀ (l : List Value) (n : Nat) (A : Array Value), off + n + l.length ≤ A.size →
    ((l.zipIdx n).foldl (fun cs (cj : Value × Nat) => cs.setIfInBounds (off + cj.2) cj.1) A).toList = splice A.toList (off + n) l
  | [], n, A, _ => by simp [splice]
  | x :: l, n, A, h => by
    simp only [List.length_cons] at h
    simp only [List.zipIdx_cons, List.foldl_cons]
    rw [foldl_set off l (n + 1) _ (by simp; omega)]
    have e := list_seg_step A.toList (off + n) x l (by simp; omega)
    simp only [splice, Array.toList_setIfInBounds, List.length_cons]
    simpa [Nat.add_assoc] using e

theorem fill_ok (place : Nat → Option (Nat × Nat)) : ∀ (parts : List (Nat × Value)) (qs : List ((Nat × Nat) × Value)) (cells : Array Value) (cs' : List Value),
    parts.map (fun p => (place p.1).map fun q => (q, p.2)) = qs.map some → fillL cells.toList qs = some cs' → Instr.fill place cells parts = some cs'.toArray
  | [], qs, cells, cs', hq, h => by
    cases qs with
    | nil => simp [fillL] at h; subst h; simp [Instr.fill]
    | cons _ _ => simp at hq
  | (i, v) :: parts, qs, cells, cs', hq, h => by
    cases qs with
    | nil => simp at hq
    | cons q qs =>
      simp only [List.map_cons, List.cons.injEq] at hq
      obtain ⟨hq0, hq⟩ := hq
      obtain ⟨⟨off, size⟩, hp, he⟩ := Option.map_eq_some_iff.1 hq0
      subst he
      simp only [fillL] at h
      split at h
      · rename_i hs
        obtain ⟨hs1, hs2⟩ := hs
        have hb : v.cells.size ≤ size := by omega
        have hb2 : off + v.cells.size ≤ cells.size := by simp at hs2; omega
        have hb3 : ¬ (v.cells.size ≠ size ∨ off + v.cells.size > cells.size) := by omega
        simp only [Instr.fill, hp]
        rw [if_neg (by simpa using hb3)]
        have hz : v.cells.zipIdx = (v.cells.toList.zipIdx 0).toArray := by rw [← Array.toList_zipIdx, Array.toArray_toList]
        have hf : Array.foldl (fun cs (x : Value × Nat) => cs.setIfInBounds (off + x.2) x.1) cells v.cells.zipIdx = (v.cells.toList.zipIdx 0).foldl (fun cs (cj : Value × Nat) => cs.setIfInBounds (off + cj.2) cj.1) cells := by
          rw [hz, List.foldl_toArray]
        refine fill_ok place parts qs _ cs' hq ?_
        rw [hf, foldl_set off _ 0 _ (by rw [Array.length_toList]; omega)]
        exact h
      · cases h
end
end Go.Proofs.YtchhpagkdaaglaaDoor.SL
