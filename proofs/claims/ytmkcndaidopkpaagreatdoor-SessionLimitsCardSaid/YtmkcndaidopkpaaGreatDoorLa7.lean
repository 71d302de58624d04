/- SessionLimits: the runs, by the window. -/
import Derived.Test.YtmkcndaidopkpaaGreatDoorM24
namespace Go.Sx
open Go.Proofs
set_option maxRecDepth 1000000
theorem l_w7 : law24 4 [] [u32 7, .rng .u8 0 255 1 0] = true := by kernel_rfl
theorem l_w16 : law24 4 [] [u32 16, .rng .u8 0 255 1 0] = true := by kernel_rfl
theorem l_w25 : law24 4 [] [u32 25, .rng .u8 0 255 1 0] = true := by kernel_rfl
theorem l_w34 : law24 4 [] [u32 34, .rng .u8 0 255 1 0] = true := by kernel_rfl
theorem l_w43 : law24 4 [] [u32 43, .rng .u8 0 255 1 0] = true := by kernel_rfl
theorem l_w52 : law24 4 [] [u32 52, .rng .u8 0 255 1 0] = true := by kernel_rfl
theorem l_w61 : law24 4 [] [u32 61, .rng .u8 0 255 1 0] = true := by kernel_rfl
theorem l_w70 : law24 4 [] [u32 70, .rng .u8 0 255 1 0] = true := by kernel_rfl
theorem l_r79 : law24 4 [] [u32 79, .rng .u8 0 255 1 0] = true := by kernel_rfl
end Go.Sx
