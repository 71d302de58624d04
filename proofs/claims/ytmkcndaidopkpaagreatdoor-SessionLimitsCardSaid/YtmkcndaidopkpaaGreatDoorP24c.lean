/- What perform.Put answers at the Attach of some names. -/
import Derived.Test.YtmkcndaidopkpaaGreatDoorA24
namespace Go.Sx
open Go.Proofs
noncomputable section
set_option maxRecDepth 1000000
theorem put_98_false : okQ okPut (run Tryz.prog thr24 100000 (.call 31 [att [98] false] H24)) = true := by kernel_rfl
theorem put_100_false : okQ okPut (run Tryz.prog thr24 100000 (.call 31 [att [100] false] H24)) = true := by kernel_rfl
theorem put_102_false : okQ okPut (run Tryz.prog thr24 100000 (.call 31 [att [102] false] H24)) = true := by kernel_rfl
theorem put_104_false : okQ okPut (run Tryz.prog thr24 100000 (.call 31 [att [104] false] H24)) = true := by kernel_rfl
end
end Go.Sx
