/- SessionLimits: the runs, by the window. -/
import Derived.Test.YtmkcndaidopkpaaGreatDoorM24
namespace Go.Sx
open Go.Proofs
set_option maxRecDepth 1000000
theorem l_w2 : law24 4 [] [u32 2, .rng .u8 0 255 1 0] = true := by kernel_rfl
theorem l_w11 : law24 4 [] [u32 11, .rng .u8 0 255 1 0] = true := by kernel_rfl
theorem l_w20 : law24 4 [] [u32 20, .rng .u8 0 255 1 0] = true := by kernel_rfl
theorem l_w29 : law24 4 [] [u32 29, .rng .u8 0 255 1 0] = true := by kernel_rfl
theorem l_w38 : law24 4 [] [u32 38, .rng .u8 0 255 1 0] = true := by kernel_rfl
theorem l_w47 : law24 4 [] [u32 47, .rng .u8 0 255 1 0] = true := by kernel_rfl
theorem l_w56 : law24 4 [] [u32 56, .rng .u8 0 255 1 0] = true := by kernel_rfl
theorem l_w65 : law24 4 [] [u32 65, .rng .u8 0 255 1 0] = true := by kernel_rfl
theorem l_w74 : law24 4 [] [u32 74, .rng .u8 0 255 1 0] = true := by kernel_rfl
theorem l_r94 : law24 4 [] [.rng .u32 94 109 1 0, .rng .u8 0 255 1 0] = true := by kernel_rfl
end Go.Sx
