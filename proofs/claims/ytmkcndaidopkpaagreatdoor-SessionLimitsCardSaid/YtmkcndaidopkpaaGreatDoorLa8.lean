/- SessionLimits: the runs, by the window. -/
import Derived.Test.YtmkcndaidopkpaaGreatDoorM24
namespace Go.Sx
open Go.Proofs
set_option maxRecDepth 1000000
theorem l_w8 : law24 4 [] [u32 8, .rng .u8 0 255 1 0] = true := by kernel_rfl
theorem l_w17 : law24 4 [] [u32 17, .rng .u8 0 255 1 0] = true := by kernel_rfl
theorem l_w26 : law24 4 [] [u32 26, .rng .u8 0 255 1 0] = true := by kernel_rfl
theorem l_w35 : law24 4 [] [u32 35, .rng .u8 0 255 1 0] = true := by kernel_rfl
theorem l_w44 : law24 4 [] [u32 44, .rng .u8 0 255 1 0] = true := by kernel_rfl
theorem l_w53 : law24 4 [] [u32 53, .rng .u8 0 255 1 0] = true := by kernel_rfl
theorem l_w62 : law24 4 [] [u32 62, .rng .u8 0 255 1 0] = true := by kernel_rfl
theorem l_w71 : law24 4 [] [u32 71, .rng .u8 0 255 1 0] = true := by kernel_rfl
theorem l_r80 : law24 4 [] [.rng .u32 80 81 1 0, .rng .u8 0 255 1 0] = true := by kernel_rfl
end Go.Sx
