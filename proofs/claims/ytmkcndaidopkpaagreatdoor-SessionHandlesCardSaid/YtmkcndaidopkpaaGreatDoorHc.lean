/- SessionHandles: the runs, by the least of the two greatest handles. -/
import Derived.Test.YtmkcndaidopkpaaGreatDoorM24
namespace Go.Sx
open Go.Proofs
set_option maxRecDepth 1000000
theorem h_c : law24 3 [16] [from_ 7, from_ 7, .rng .u8 0 255 1 0] = true := by kernel_rfl
end Go.Sx
