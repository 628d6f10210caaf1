/- Part 2 of the proof of LawSe: SlB, one behind the other. -/
import Derived.Test.YtchhpagkdaaglaaDoorSeSlA
import Derived.Laws.StructEq
set_option linter.unusedVariables false
set_option linter.unusedSimpArgs false
namespace Go.Proofs.YtchhpagkdaaglaaDoor.SL
open Go

inductive TK where
  | bool | int (k : IntKind) | string | pointer (e : TypeId) | slice (e : TypeId) | array (n : Nat) (e : TypeId) | struct (fs : List (Nat × TypeId))
  | map (k e : TypeId) | func | iface | other
def TK.of : TypeDesc → TK
  | .bool => .bool
  | .int k => .int k
  | .string => .string
  | .pointer e => .pointer e
  | .slice e => .slice e
  | .array n e => .array n e
  | .struct fs => .struct (fs.toList.map fun f => (f.offset, f.type))
  | .map k e => .map k e
  | .func _ _ _ => .func
  | .interface _ => .iface
  | _ => .other
structure TI where
  size : Nat
  bytes : Nat
  zero : Value
  kind : TK
  flat : Nat
def FlatOk (P : Program) (t : TypeId) (n : Nat) : Prop :=
  P.stoodInHeld t = false ∧ P.eqGuardType P.depth t = false ∧ P.underlying t = some (.struct (P.fieldsOf t)) ∧ (P.fieldsOf t).toList.length = n ∧
  ((P.fieldsOf t).toList.zipIdx.all fun q => !(q.1.name == "_") && (q.1.offset == q.2) && (match P.underlying q.1.type with | some (.int _) => true | _ => false)) = true
def TI.agg (t : TI) : Bool := match t.kind with
  | .struct _ | .array _ _ => true
  | _ => false
def TIok (P : Program) (t : TypeId) (ti : TI) : Prop :=
  (P.info? t).map (fun i => (i.zero, i.size, i.bytes)) = some (some ti.zero, ti.size, ti.bytes) ∧ (P.underlying t).map TK.of = some ti.kind ∧ (ti.flat ≠ 0 → FlatOk P t ti.flat)
abbrev Types := TypeId → Option TI
def TOk (P : Program) (T : Types) : Prop := ∀ t ti, T t = some ti → TIok P t ti

section
variable {P : Program} {t : TypeId} {ti : TI}
theorem TIok.info (h : TIok P t ti) : ∃ i, P.info? t = some i ∧ i.zero = some ti.zero ∧ i.size = ti.size ∧ i.bytes = ti.bytes := by
  obtain ⟨h, _⟩ := h
  obtain ⟨i, hi, hz⟩ := Option.map_eq_some_iff.1 h
  simp only [Prod.mk.injEq] at hz
  exact ⟨i, hi, hz.1, hz.2.1, hz.2.2⟩
theorem TIok.desc (h : TIok P t ti) : ∃ d, P.underlying t = some d ∧ TK.of d = ti.kind := by
  obtain ⟨_, h, _⟩ := h
  obtain ⟨d, hd, hz⟩ := Option.map_eq_some_iff.1 h
  exact ⟨d, hd, hz⟩
theorem TIok.slice (h : TIok P t ti) {e : TypeId} (hk : ti.kind = .slice e) : P.underlying t = some (.slice e) := by
  obtain ⟨d, hd, hz⟩ := h.desc
  rw [hk] at hz
  cases d <;> simp only [TK.of] at hz <;> first | (cases hz; exact hd) | cases hz
theorem TIok.int (h : TIok P t ti) {k : IntKind} (hk : ti.kind = .int k) : P.underlying t = some (.int k) := by
  obtain ⟨d, hd, hz⟩ := h.desc
  rw [hk] at hz
  cases d <;> simp only [TK.of] at hz <;> first | (cases hz; exact hd) | cases hz
theorem TIok.bool (h : TIok P t ti) (hk : ti.kind = .bool) : P.underlying t = some .bool := by
  obtain ⟨d, hd, hz⟩ := h.desc
  rw [hk] at hz
  cases d <;> simp only [TK.of] at hz <;> first | exact hd | cases hz
theorem TIok.string (h : TIok P t ti) (hk : ti.kind = .string) : P.underlying t = some .string := by
  obtain ⟨d, hd, hz⟩ := h.desc
  rw [hk] at hz
  cases d <;> simp only [TK.of] at hz <;> first | exact hd | cases hz
theorem TIok.array (h : TIok P t ti) {n : Nat} {e : TypeId} (hk : ti.kind = .array n e) : P.underlying t = some (.array n e) := by
  obtain ⟨d, hd, hz⟩ := h.desc
  rw [hk] at hz
  cases d <;> simp only [TK.of] at hz <;> first | (cases hz; exact hd) | cases hz
theorem TIok.pointer (h : TIok P t ti) {e : TypeId} (hk : ti.kind = .pointer e) : P.underlying t = some (.pointer e) := by
  obtain ⟨d, hd, hz⟩ := h.desc
  rw [hk] at hz
  cases d <;> simp only [TK.of] at hz <;> first | (cases hz; exact hd) | cases hz
theorem TIok.map (h : TIok P t ti) {k e : TypeId} (hk : ti.kind = .map k e) : P.underlying t = some (.map k e) := by
  obtain ⟨d, hd, hz⟩ := h.desc
  rw [hk] at hz
  cases d <;> simp only [TK.of] at hz <;> first | (cases hz; exact hd) | cases hz
theorem TIok.struct (h : TIok P t ti) {fs : List (Nat × TypeId)} (hk : ti.kind = .struct fs) : ∃ fields : Array Field, P.underlying t = some (.struct fields) ∧ fs = fields.toList.map fun f => (f.offset, f.type) := by
  obtain ⟨d, hd, hz⟩ := h.desc
  rw [hk] at hz
  cases d <;> simp only [TK.of] at hz <;> first | (cases hz; exact ⟨_, hd, rfl⟩) | cases hz
theorem TIok.run_size (h : TIok P t ti) (w : World) : (sizeOf t).run P w = .ok ti.size w := by
  obtain ⟨i, hi, _, hs, _⟩ := h.info
  simp [Go.sizeOf, typeInfo, hi, hs]
theorem TIok.run_zero (h : TIok P t ti) (w : World) : (zeroValue t).run P w = .ok ti.zero w := by
  obtain ⟨i, hi, hz, _, _⟩ := h.info
  simp [zeroValue, typeInfo, hi, hz]
theorem TIok.run_isAgg (h : TIok P t ti) (w : World) : (isAgg t).run P w = .ok ti.agg w := by
  obtain ⟨d, hd, hz⟩ := h.desc
  unfold TI.agg
  rw [← hz]
  cases d <;> simp [isAgg, run_underlying hd, TK.of]
end

def vInt : BinOp → Value → Value → Option Value
  | .add, .int k a, .int k' b => if k = k' then some (.int k (k.wrap (a + b))) else none
  | .sub, .int k a, .int k' b => if k = k' then some (.int k (k.wrap (a - b))) else none
  | .mul, .int k a, .int k' b => if k = k' then some (.int k (k.wrap (a * b))) else none
  | .quo, .int k a, .int k' b => if k = k' then (if b = 0 then none else some (.int k (k.wrap (a.tdiv b)))) else none
  | .rem, .int k a, .int k' b => if k = k' then (if b = 0 then none else some (.int k (a.tmod b))) else none
  | .and, .int k a, .int k' b => if k = k' then some (.int k (k.wrap (BitVec.ofInt k.bits a &&& BitVec.ofInt k.bits b).toNat)) else none
  | .or, .int k a, .int k' b => if k = k' then some (.int k (k.wrap (BitVec.ofInt k.bits a ||| BitVec.ofInt k.bits b).toNat)) else none
  | .xor, .int k a, .int k' b => if k = k' then some (.int k (k.wrap (BitVec.ofInt k.bits a ^^^ BitVec.ofInt k.bits b).toNat)) else none
  | .shl, .int k a, .int _ b => if b < 0 then none else some (.int k (k.wrap (a * 2 ^ (min b.toNat k.bits))))
  | .shr, .int k a, .int _ b => if b < 0 then none else some (.int k (a.fdiv (2 ^ (min b.toNat k.bits))))
  | .eql, .int k a, .int k' b => if k = k' then some (.bool (a == b)) else none
  | .neq, .int k a, .int k' b => if k = k' then some (.bool (a != b)) else none
  | .lss, .int k a, .int k' b => if k = k' then some (.bool (decide (a < b))) else none
  | .leq, .int k a, .int k' b => if k = k' then some (.bool (decide (a ≤ b))) else none
  | .gtr, .int k a, .int k' b => if k = k' then some (.bool (decide (a > b))) else none
  | .geq, .int k a, .int k' b => if k = k' then some (.bool (decide (a ≥ b))) else none
  | _, _, _ => none
def vBoolOp : BinOp → Value → Value → Option Value
  | .eql, .bool a, .bool b => some (.bool (a == b))
  | .neq, .bool a, .bool b => some (.bool (!(a == b)))
  | _, _, _ => none
def vNilOp : BinOp → Value → Value → Option Value
  | .eql, .slice a _ _, .slice none _ _ => some (.bool a.isNone)
  | .neq, .slice a _ _, .slice none _ _ => some (.bool (!a.isNone))
  | _, _, _ => none
def vStrOp : BinOp → Value → Value → Option Value
  | .eql, .string a, .string b => some (.bool (a.toList == b.toList))
  | .neq, .string a, .string b => some (.bool (!(a.toList == b.toList)))
  | _, _, _ => none
def eqCells : List Value → List Value → Option Bool
  | [], [] => some true
  | .int k a :: r, .int k' b :: r' => if k = k' then (eqCells r r').map ((a == b) && ·) else none
  | _, _ => none
def vBin (tk : TK) (op : BinOp) (a b : Value) : Option Value := match tk with
  | .int _ => vInt op a b
  | .bool => vBoolOp op a b
  | .slice _ => vNilOp op a b
  | .string => vStrOp op a b
  | _ => none
def vAggOp (n : Nat) (op : BinOp) (a b : Value) : Option Value := match op, a, b with
  | .eql, .agg xs, .agg ys => if xs.size = n ∧ ys.size = n then (eqCells xs.toList ys.toList).map .bool else none
  | .neq, .agg xs, .agg ys => if xs.size = n ∧ ys.size = n then (eqCells xs.toList ys.toList).map fun b => .bool !b else none
  | _, _, _ => none
def vBinT (ti : TI) (op : BinOp) (a b : Value) : Option Value := match ti.kind with
  | .struct _ => if ti.flat = 0 then none else vAggOp ti.flat op a b
  | k => vBin k op a b
def vUn : UnOp → Value → Option Value
  | .not, .bool b => some (.bool !b)
  | .neg, .int k n => some (.int k (k.wrap (0 - n)))
  | .xor, .int k n => some (.int k (k.wrap (BitVec.ofInt k.bits (if k.signed then -1 else k.max) ^^^ BitVec.ofInt k.bits n).toNat))
  | _, _ => none
def vConv (dst : TK) (x : Value) : Option Value := match dst, x with
  | .int k, .int _ n => some (.int k (k.wrap n))
  | _, _ => none
def pAZ (c a b : Value) : Option Value := match c with
  | .bool c => some (if c then a else b)
  | _ => none
def vNil (x : Value) : Option Value := match x with
  | .pointer (some a) => some (.pointer (some a))
  | .func fn x y => (match fn with
    | .func f => some (.func (.func f) x y)
    | _ => none)
  | _ => none
def qYZ (fo : Nat) (x : Value) : Option Value := match x with
  | .pointer (some ⟨i, off, none⟩) => some (.pointer (some ⟨i, off + fo, none⟩))
  | _ => none
def p1Z (sz : Nat) (x ix : Value) : Option Value := match x, ix with
  | .slice (some ⟨i, off, none⟩) len _, .int _ n => if 0 ≤ n ∧ n < len then some (.pointer (some ⟨i, off + n.toNat * sz, none⟩)) else none
  | _, _ => none
def vIdxA (len sz : Nat) (x ix : Value) : Option Value := match x, ix with
  | .pointer (some ⟨i, off, none⟩), .int _ n => if 0 ≤ n ∧ n < len then some (.pointer (some ⟨i, off + n.toNat * sz, none⟩)) else none
  | _, _ => none
def vPart (agg : Bool) (off size : Nat) (x : Value) : Option Value := match x with
  | .agg cs => if agg then some (.agg (cs.extract off (off + size))) else cs[off]?
  | _ => none
def vIndexA (agg : Bool) (len sz : Nat) (x ix : Value) : Option Value := match ix with
  | .int _ n => if 0 ≤ n ∧ n < len then vPart agg (n.toNat * sz) sz x else none
  | _ => none
def vIndexStr (x ix : Value) : Option Value := match x, ix with
  | .string s, .int _ n => if h : 0 ≤ n ∧ n.toNat < s.size then some (.int .u8 (s[n.toNat]'h.2).toNat) else none
  | _, _ => none
def p0Z (x : Value) (i : Nat) : Option Value := match x with
  | .tuple vs => vs[i]?
  | _ => none
def vLen (x : Value) : Option Value := match x with
  | .slice _ n _ => some (.int .i64 n)
  | _ => none
def vLenStr (x : Value) : Option Value := match x with
  | .string s => some (.int .i64 s.size)
  | _ => none
def vMax (a b : Value) : Option Value := match a, b with
  | .int k x, .int _ y => some (.int k (if y > x then y else x))
  | _, _ => none
def vMin (a b : Value) : Option Value := match a, b with
  | .int k x, .int _ y => some (.int k (if y < x then y else x))
  | _, _ => none
def vBound (y : Nat) (x : Value) : Option Nat := match x with
  | .int _ m => if 0 ≤ m ∧ m ≤ y then some m.toNat else none
  | _ => none
def vSlice (sz : Nat) (x : Value) (lo hi mx : Option Value) : Option Value := match x with
  | .slice a len cap =>
    (match mx with
     | none => some cap
     | some v => vBound cap v).bind fun m =>
    (match hi with
     | none => if mx.isSome then none else some len
     | some v => vBound m v).bind fun h =>
    (match lo with
     | none => some 0
     | some v => vBound h v).bind fun l =>
    match a with
    | none => some (.slice none (h - l) (m - l))
    | some ⟨i, off, none⟩ => some (.slice (some ⟨i, if m = l then off else off + l * sz, none⟩) (h - l) (m - l))
    | _ => none
  | _ => none
def fillL (cells : List Value) : List ((Nat × Nat) × Value) → Option (List Value)
  | [] => some cells
  | ((off, size), v) :: rest => if v.cells.size = size ∧ off + size ≤ cells.length then fillL (splice cells off v.cells.toList) rest else none

section
variable {P : Program} {w : World}
theorem run_vInt {op : BinOp} {t : TypeId} {x y : Operand} {a b v : Value} (h : vInt op a b = some v) : (do eqGuard op t x y a b; binOp op t a b : Sem Value).run P w = .ok v w := by
  cases a <;> cases b <;> cases op <;> simp only [vInt] at h <;> try (cases h; done)
  all_goals
    simp only [eqGuard, Sem.run_bind, binOp]
    try
      split at h
      · rename_i hk
        subst hk
        first
          | (cases h; simp [Op.intArith, Op.intBits, Op.intCmp, Op.shift]; done)
          | (split at h
             · cases h
             · rename_i hb
               cases h
               simp [Op.intDiv, hb])
      · cases h
  all_goals
    split at h
    · cases h
    · rename_i hb
      cases h
      simp [Op.shift, hb]
end
end Go.Proofs.YtchhpagkdaaglaaDoor.SL
