/- field.Reduce. -/
import Derived.Test.YtchhpagkdaaglaaDoorNumC
set_option linter.unusedVariables false
set_option linter.unusedSimpArgs false
namespace Go.Proofs.YtchhpagkdaaglaaDoor.SL
open Go

theorem reduce_spec (H : Heap) {p n : Int} (hp : Supp p) (l0 : 0 ≤ n) (l1 : n ≤ 18446744073709551615) : RCalls Tryd.prog 135 [.int .u64 p, .int .u64 n] H (Val (.int .u64 (n % p)) H) := by
  apply call135
  unfold m135
  refine oRC_val (fold_spec H hp (by omega) (by omega) l0 l1) ⟨?_, rfl⟩
  simp
end Go.Proofs.YtchhpagkdaaglaaDoor.SL
