/- Part 19 of the proof of LawSe: SlT, one behind the other. -/
import Derived.Test.YtchhpagkdaaglaaDoorSeSlS
set_option linter.unusedVariables false
set_option linter.unusedSimpArgs false
namespace Go.Proofs.YtchhpagkdaaglaaDoor.SL
open Go
theorem qQZ {o : Option Value} {v : Value} {k : Value → Prop} (h : o = some v) (hk : k v) : oV o k := by
  rw [h]
  exact hk
theorem p8Z {o : Option Heap} {v : Heap} {k : Heap → Prop} (h : o = some v) (hk : k v) : oHeap o k := by
  rw [h]
  exact hk
theorem oV_of {o : Option Value} {v : Value} (h : o = some v) (k : Value → Prop) : oV o k = k v := by rw [h]; rfl
section
variable (i : IntKind) (a b : Int) (k : Value → Prop)
theorem hs_add : oV (vInt .add (.int i a) (.int i b)) k = k (.int i (i.wrap (a + b))) := by rw [vInt_add]; rfl
theorem hs_mul : oV (vInt .mul (.int i a) (.int i b)) k = k (.int i (i.wrap (a * b))) := by rw [vInt_mul]; rfl
end
end Go.Proofs.YtchhpagkdaaglaaDoor.SL
