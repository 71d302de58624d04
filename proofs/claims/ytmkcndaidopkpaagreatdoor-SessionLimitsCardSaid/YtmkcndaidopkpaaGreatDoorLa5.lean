/- SessionLimits: the runs, by the window. -/
import Derived.Test.YtmkcndaidopkpaaGreatDoorM24
namespace Go.Sx
open Go.Proofs
set_option maxRecDepth 1000000
theorem l_w5 : law24 4 [] [u32 5, .rng .u8 0 255 1 0] = true := by kernel_rfl
theorem l_w14 : law24 4 [] [u32 14, .rng .u8 0 255 1 0] = true := by kernel_rfl
theorem l_w23 : law24 4 [] [u32 23, .rng .u8 0 255 1 0] = true := by kernel_rfl
theorem l_w32 : law24 4 [] [u32 32, .rng .u8 0 255 1 0] = true := by kernel_rfl
theorem l_w41 : law24 4 [] [u32 41, .rng .u8 0 255 1 0] = true := by kernel_rfl
theorem l_w50 : law24 4 [] [u32 50, .rng .u8 0 255 1 0] = true := by kernel_rfl
theorem l_w59 : law24 4 [] [u32 59, .rng .u8 0 255 1 0] = true := by kernel_rfl
theorem l_w68 : law24 4 [] [u32 68, .rng .u8 0 255 1 0] = true := by kernel_rfl
theorem l_w77 : law24 4 [] [u32 77, .rng .u8 0 255 1 0] = true := by kernel_rfl
theorem l_r206 : law24 4 [] [from_ 206, .rng .u8 0 255 1 0] = true := by kernel_rfl
end Go.Sx
