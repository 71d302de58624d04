/- SessionLimits: the runs, by the window. -/
import Derived.Test.YtmkcndaidopkpaaGreatDoorM24
namespace Go.Sx
open Go.Proofs
set_option maxRecDepth 1000000
theorem l_w1 : law24 4 [] [u32 1, .rng .u8 0 255 1 0] = true := by kernel_rfl
theorem l_w10 : law24 4 [] [u32 10, .rng .u8 0 255 1 0] = true := by kernel_rfl
theorem l_w19 : law24 4 [] [u32 19, .rng .u8 0 255 1 0] = true := by kernel_rfl
theorem l_w28 : law24 4 [] [u32 28, .rng .u8 0 255 1 0] = true := by kernel_rfl
theorem l_w37 : law24 4 [] [u32 37, .rng .u8 0 255 1 0] = true := by kernel_rfl
theorem l_w46 : law24 4 [] [u32 46, .rng .u8 0 255 1 0] = true := by kernel_rfl
theorem l_w55 : law24 4 [] [u32 55, .rng .u8 0 255 1 0] = true := by kernel_rfl
theorem l_w64 : law24 4 [] [u32 64, .rng .u8 0 255 1 0] = true := by kernel_rfl
theorem l_w73 : law24 4 [] [u32 73, .rng .u8 0 255 1 0] = true := by kernel_rfl
theorem l_r86 : law24 4 [] [.rng .u32 86 93 1 0, .rng .u8 0 255 1 0] = true := by kernel_rfl
end Go.Sx
