/- What perform.Put answers at the Attach of some names. -/
import Derived.Test.YtmkcndaidopkpaaGreatDoorA24
namespace Go.Sx
open Go.Proofs
noncomputable section
set_option maxRecDepth 1000000
theorem put_97_false : okQ okPut (run Tryz.prog thr24 100000 (.call 31 [att [97] false] H24)) = true := by kernel_rfl
theorem put_99_false : okQ okPut (run Tryz.prog thr24 100000 (.call 31 [att [99] false] H24)) = true := by kernel_rfl
theorem put_101_false : okQ okPut (run Tryz.prog thr24 100000 (.call 31 [att [101] false] H24)) = true := by kernel_rfl
theorem put_103_false : okQ okPut (run Tryz.prog thr24 100000 (.call 31 [att [103] false] H24)) = true := by kernel_rfl
theorem put_122_false : okQ okPut (run Tryz.prog thr24 100000 (.call 31 [att [122] false] H24)) = true := by kernel_rfl
end
end Go.Sx
