/- Steps of a printed predicate, for simp from the head on: nothing that comes later is looked at before its turn. -/
import Derived.Test.YtchhpagkdaaglaaDoorSlS
set_option linter.unusedVariables false
set_option linter.unusedSimpArgs false
namespace Go.Proofs.YtchhpagkdaaglaaDoor.SL
open Go
theorem oV_eq {o : Option Value} {v : Value} {k : Value → Prop} (h : o = some v) (hk : k v) : oV o k := by
  rw [h]
  exact hk
theorem oHeap_eq {o : Option Heap} {v : Heap} {k : Heap → Prop} (h : o = some v) (hk : k v) : oHeap o k := by
  rw [h]
  exact hk
theorem oV_of {o : Option Value} {v : Value} (h : o = some v) (k : Value → Prop) : oV o k = k v := by rw [h]; rfl
theorem oHeap_of {o : Option Heap} {v : Heap} (h : o = some v) (k : Heap → Prop) : oHeap o k = k v := by rw [h]; rfl
theorem hs_some (v : Value) (k : Value → Prop) : oV (some v) k = k v := rfl
theorem hs_fieldto (fo i : Nat) (k : Value → Prop) : oV (vField fo (ptrTo i)) k = k (.pointer (some ⟨i, fo, none⟩)) := by rw [vField_to]; rfl
theorem hs_field (fo i off : Nat) (k : Value → Prop) : oV (vField fo (.pointer (some ⟨i, off, none⟩))) k = k (.pointer (some ⟨i, off + fo, none⟩)) := rfl
theorem hs_nilto (i : Nat) (k : Value → Prop) : oV (vNil (ptrTo i)) k = k (ptrTo i) := rfl
theorem hs_nilp (a : Addr) (k : Value → Prop) : oV (vNil (.pointer (some a))) k = k (.pointer (some a)) := rfl
theorem hs_gTT (a b : Option Value) (k : Value → Prop) : oV (gV (.bool true) true a b) k = oV a k := rfl
theorem hs_gFF (a b : Option Value) (k : Value → Prop) : oV (gV (.bool false) false a b) k = oV a k := rfl
theorem hs_gTF (a b : Option Value) (k : Value → Prop) : oV (gV (.bool true) false a b) k = oV b k := rfl
theorem hs_gFT (a b : Option Value) (k : Value → Prop) : oV (gV (.bool false) true a b) k = oV b k := rfl
theorem hs_pickT (a b : Value) (k : Value → Prop) : oV (vPick (.bool true) a b) k = k a := rfl
theorem hs_pickF (a b : Value) (k : Value → Prop) : oV (vPick (.bool false) a b) k = k b := rfl
theorem hs_not (b : Bool) (k : Value → Prop) : oV (vUn .not (.bool b)) k = k (.bool !b) := rfl
theorem hs_len (a : Option Addr) (n c : Nat) (k : Value → Prop) : oV (vLen (.slice a n c)) k = k (.int .i64 n) := rfl
theorem hs_conv (i j : IntKind) (n : Int) (k : Value → Prop) : oV (vConv (.int i) (.int j n)) k = k (.int i (i.wrap n)) := rfl
theorem hs_ex0 (a b : Value) (k : Value → Prop) : oV (vExtract (.tuple #[a, b]) 0) k = k a := rfl
theorem hs_ex1 (a b : Value) (k : Value → Prop) : oV (vExtract (.tuple #[a, b]) 1) k = k b := rfl
section
variable (i : IntKind) (a b : Int) (k : Value → Prop)
theorem hs_add : oV (vInt .add (.int i a) (.int i b)) k = k (.int i (i.wrap (a + b))) := by rw [vInt_add]; rfl
theorem hs_sub : oV (vInt .sub (.int i a) (.int i b)) k = k (.int i (i.wrap (a - b))) := by rw [vInt_sub]; rfl
theorem hs_mul : oV (vInt .mul (.int i a) (.int i b)) k = k (.int i (i.wrap (a * b))) := by rw [vInt_mul]; rfl
theorem hs_eql : oV (vInt .eql (.int i a) (.int i b)) k = k (.bool (decide (a = b))) := by rw [vInt_eql]; rfl
theorem hs_neq : oV (vInt .neq (.int i a) (.int i b)) k = k (.bool (decide (a ≠ b))) := by rw [vInt_neq]; rfl
theorem hs_lss : oV (vInt .lss (.int i a) (.int i b)) k = k (.bool (decide (a < b))) := by rw [vInt_lss]; rfl
theorem hs_leq : oV (vInt .leq (.int i a) (.int i b)) k = k (.bool (decide (a ≤ b))) := by rw [vInt_leq]; rfl
theorem hs_gtr : oV (vInt .gtr (.int i a) (.int i b)) k = k (.bool (decide (b < a))) := by rw [vInt_gtr]; rfl
theorem hs_geq : oV (vInt .geq (.int i a) (.int i b)) k = k (.bool (decide (b ≤ a))) := by rw [vInt_geq]; rfl
end
theorem hs_quo (i : IntKind) {a b : Int} (hb : b ≠ 0) (k : Value → Prop) : oV (vInt .quo (.int i a) (.int i b)) k = k (.int i (i.wrap (a.tdiv b))) := by rw [vInt_quo, if_neg hb]; rfl
theorem hs_rem (i : IntKind) {a b : Int} (hb : b ≠ 0) (k : Value → Prop) : oV (vInt .rem (.int i a) (.int i b)) k = k (.int i (a.tmod b)) := by rw [vInt_rem, if_neg hb]; rfl
theorem hs_shl (i j : IntKind) {a b : Int} (hb : ¬ b < 0) (k : Value → Prop) : oV (vInt .shl (.int i a) (.int j b)) k = k (.int i (i.wrap (a * 2 ^ (min b.toNat i.bits)))) := by rw [vInt_shl, if_neg hb]; rfl
theorem hs_shr (i j : IntKind) {a b : Int} (hb : ¬ b < 0) (k : Value → Prop) : oV (vInt .shr (.int i a) (.int j b)) k = k (.int i (a.fdiv (2 ^ (min b.toNat i.bits)))) := by rw [vInt_shr, if_neg hb]; rfl
end Go.Proofs.YtchhpagkdaaglaaDoor.SL
