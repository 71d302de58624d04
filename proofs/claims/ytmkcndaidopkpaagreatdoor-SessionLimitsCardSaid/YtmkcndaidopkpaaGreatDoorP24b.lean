/- What perform.Put answers at the Attach of some names. -/
import Derived.Test.YtmkcndaidopkpaaGreatDoorA24
namespace Go.Sx
open Go.Proofs
noncomputable section
set_option maxRecDepth 1000000
theorem put_97_true : okQ okPut (run Tryz.prog thr24 100000 (.call 31 [att [97] true] H24)) = true := by kernel_rfl
theorem put_99_true : okQ okPut (run Tryz.prog thr24 100000 (.call 31 [att [99] true] H24)) = true := by kernel_rfl
theorem put_101_true : okQ okPut (run Tryz.prog thr24 100000 (.call 31 [att [101] true] H24)) = true := by kernel_rfl
theorem put_103_true : okQ okPut (run Tryz.prog thr24 100000 (.call 31 [att [103] true] H24)) = true := by kernel_rfl
theorem put_110_true : okQ okPut (run Tryz.prog thr24 100000 (.call 31 [att [110] true] H24)) = true := by kernel_rfl
end
end Go.Sx
