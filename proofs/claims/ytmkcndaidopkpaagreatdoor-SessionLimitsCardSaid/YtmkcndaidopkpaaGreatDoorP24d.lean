/- What perform.Put answers at the Attach of some names. -/
import Derived.Test.YtmkcndaidopkpaaGreatDoorA24
namespace Go.Sx
open Go.Proofs
noncomputable section
set_option maxRecDepth 1000000
theorem put_98_true : okQ okPut (run Tryz.prog thr24 100000 (.call 31 [att [98] true] H24)) = true := by kernel_rfl
theorem put_100_true : okQ okPut (run Tryz.prog thr24 100000 (.call 31 [att [100] true] H24)) = true := by kernel_rfl
theorem put_102_true : okQ okPut (run Tryz.prog thr24 100000 (.call 31 [att [102] true] H24)) = true := by kernel_rfl
theorem put_104_true : okQ okPut (run Tryz.prog thr24 100000 (.call 31 [att [104] true] H24)) = true := by kernel_rfl
end
end Go.Sx
