/- SessionHandles: the runs, by the least of the two greatest handles. -/
import Derived.Test.YtmkcndaidopkpaaGreatDoorM24
namespace Go.Sx
open Go.Proofs
set_option maxRecDepth 1000000
theorem h_a0 : law24 3 [16] [u32 0, from_ 0, .rng .u8 0 255 1 0] = true := by kernel_rfl
theorem h_a1 : law24 3 [16] [u32 1, from_ 1, .rng .u8 0 255 1 0] = true := by kernel_rfl
theorem h_a2 : law24 3 [16] [u32 2, from_ 2, .rng .u8 0 255 1 0] = true := by kernel_rfl
theorem h_a3 : law24 3 [16] [u32 3, from_ 3, .rng .u8 0 255 1 0] = true := by kernel_rfl
theorem h_a4 : law24 3 [16] [u32 4, from_ 4, .rng .u8 0 255 1 0] = true := by kernel_rfl
theorem h_a5 : law24 3 [16] [u32 5, from_ 5, .rng .u8 0 255 1 0] = true := by kernel_rfl
theorem h_a6 : law24 3 [16] [u32 6, from_ 6, .rng .u8 0 255 1 0] = true := by kernel_rfl
end Go.Sx
