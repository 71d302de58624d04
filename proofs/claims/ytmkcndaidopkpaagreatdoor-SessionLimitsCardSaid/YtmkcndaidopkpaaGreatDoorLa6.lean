/- SessionLimits: the runs, by the window. -/
import Derived.Test.YtmkcndaidopkpaaGreatDoorM24
namespace Go.Sx
open Go.Proofs
set_option maxRecDepth 1000000
theorem l_w6 : law24 4 [] [u32 6, .rng .u8 0 255 1 0] = true := by kernel_rfl
theorem l_w15 : law24 4 [] [u32 15, .rng .u8 0 255 1 0] = true := by kernel_rfl
theorem l_w24 : law24 4 [] [u32 24, .rng .u8 0 255 1 0] = true := by kernel_rfl
theorem l_w33 : law24 4 [] [u32 33, .rng .u8 0 255 1 0] = true := by kernel_rfl
theorem l_w42 : law24 4 [] [u32 42, .rng .u8 0 255 1 0] = true := by kernel_rfl
theorem l_w51 : law24 4 [] [u32 51, .rng .u8 0 255 1 0] = true := by kernel_rfl
theorem l_w60 : law24 4 [] [u32 60, .rng .u8 0 255 1 0] = true := by kernel_rfl
theorem l_w69 : law24 4 [] [u32 69, .rng .u8 0 255 1 0] = true := by kernel_rfl
theorem l_w78 : law24 4 [] [u32 78, .rng .u8 0 255 1 0] = true := by kernel_rfl
end Go.Sx
