/- SessionLimits: the runs, by the window. -/
import Derived.Test.YtmkcndaidopkpaaGreatDoorM24
namespace Go.Sx
open Go.Proofs
set_option maxRecDepth 1000000
theorem l_w0 : law24 4 [] [u32 0, .rng .u8 0 255 1 0] = true := by kernel_rfl
theorem l_w9 : law24 4 [] [u32 9, .rng .u8 0 255 1 0] = true := by kernel_rfl
theorem l_w18 : law24 4 [] [u32 18, .rng .u8 0 255 1 0] = true := by kernel_rfl
theorem l_w27 : law24 4 [] [u32 27, .rng .u8 0 255 1 0] = true := by kernel_rfl
theorem l_w36 : law24 4 [] [u32 36, .rng .u8 0 255 1 0] = true := by kernel_rfl
theorem l_w45 : law24 4 [] [u32 45, .rng .u8 0 255 1 0] = true := by kernel_rfl
theorem l_w54 : law24 4 [] [u32 54, .rng .u8 0 255 1 0] = true := by kernel_rfl
theorem l_w63 : law24 4 [] [u32 63, .rng .u8 0 255 1 0] = true := by kernel_rfl
theorem l_w72 : law24 4 [] [u32 72, .rng .u8 0 255 1 0] = true := by kernel_rfl
theorem l_r82 : law24 4 [] [.rng .u32 82 85 1 0, .rng .u8 0 255 1 0] = true := by kernel_rfl
end Go.Sx
