/- SessionLimits: the runs, by the window. -/
import Derived.Test.YtmkcndaidopkpaaGreatDoorM24
namespace Go.Sx
open Go.Proofs
set_option maxRecDepth 1000000
theorem l_w3 : law24 4 [] [u32 3, .rng .u8 0 255 1 0] = true := by kernel_rfl
theorem l_w12 : law24 4 [] [u32 12, .rng .u8 0 255 1 0] = true := by kernel_rfl
theorem l_w21 : law24 4 [] [u32 21, .rng .u8 0 255 1 0] = true := by kernel_rfl
theorem l_w30 : law24 4 [] [u32 30, .rng .u8 0 255 1 0] = true := by kernel_rfl
theorem l_w39 : law24 4 [] [u32 39, .rng .u8 0 255 1 0] = true := by kernel_rfl
theorem l_w48 : law24 4 [] [u32 48, .rng .u8 0 255 1 0] = true := by kernel_rfl
theorem l_w57 : law24 4 [] [u32 57, .rng .u8 0 255 1 0] = true := by kernel_rfl
theorem l_w66 : law24 4 [] [u32 66, .rng .u8 0 255 1 0] = true := by kernel_rfl
theorem l_w75 : law24 4 [] [u32 75, .rng .u8 0 255 1 0] = true := by kernel_rfl
theorem l_r110 : law24 4 [] [.rng .u32 110 141 1 0, .rng .u8 0 255 1 0] = true := by kernel_rfl
end Go.Sx
