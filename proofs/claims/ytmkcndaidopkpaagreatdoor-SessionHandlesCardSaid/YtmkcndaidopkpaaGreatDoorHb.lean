/- SessionHandles: the runs, by the least of the two greatest handles. -/
import Derived.Test.YtmkcndaidopkpaaGreatDoorM24
namespace Go.Sx
open Go.Proofs
set_option maxRecDepth 1000000
theorem h_b0 : law24 3 [16] [from_ 1, u32 0, .rng .u8 0 255 1 0] = true := by kernel_rfl
theorem h_b1 : law24 3 [16] [from_ 2, u32 1, .rng .u8 0 255 1 0] = true := by kernel_rfl
theorem h_b2 : law24 3 [16] [from_ 3, u32 2, .rng .u8 0 255 1 0] = true := by kernel_rfl
theorem h_b3 : law24 3 [16] [from_ 4, u32 3, .rng .u8 0 255 1 0] = true := by kernel_rfl
theorem h_b4 : law24 3 [16] [from_ 5, u32 4, .rng .u8 0 255 1 0] = true := by kernel_rfl
theorem h_b5 : law24 3 [16] [from_ 6, u32 5, .rng .u8 0 255 1 0] = true := by kernel_rfl
theorem h_b6 : law24 3 [16] [from_ 7, u32 6, .rng .u8 0 255 1 0] = true := by kernel_rfl
end Go.Sx
