/- SessionLimits: the runs, by the window. -/
import Derived.Test.YtmkcndaidopkpaaGreatDoorM24
namespace Go.Sx
open Go.Proofs
set_option maxRecDepth 1000000
theorem l_w4 : law24 4 [] [u32 4, .rng .u8 0 255 1 0] = true := by kernel_rfl
theorem l_w13 : law24 4 [] [u32 13, .rng .u8 0 255 1 0] = true := by kernel_rfl
theorem l_w22 : law24 4 [] [u32 22, .rng .u8 0 255 1 0] = true := by kernel_rfl
theorem l_w31 : law24 4 [] [u32 31, .rng .u8 0 255 1 0] = true := by kernel_rfl
theorem l_w40 : law24 4 [] [u32 40, .rng .u8 0 255 1 0] = true := by kernel_rfl
theorem l_w49 : law24 4 [] [u32 49, .rng .u8 0 255 1 0] = true := by kernel_rfl
theorem l_w58 : law24 4 [] [u32 58, .rng .u8 0 255 1 0] = true := by kernel_rfl
theorem l_w67 : law24 4 [] [u32 67, .rng .u8 0 255 1 0] = true := by kernel_rfl
theorem l_w76 : law24 4 [] [u32 76, .rng .u8 0 255 1 0] = true := by kernel_rfl
theorem l_r142 : law24 4 [] [.rng .u32 142 205 1 0, .rng .u8 0 255 1 0] = true := by kernel_rfl
end Go.Sx
