/- SessionLimits: of each window and each count the run is one of those that were made. -/
import Derived.Test.YtmkcndaidopkpaaGreatDoorL24c
import Derived.Test.YtmkcndaidopkpaaGreatDoorLa0
import Derived.Test.YtmkcndaidopkpaaGreatDoorLa1
import Derived.Test.YtmkcndaidopkpaaGreatDoorLa2
import Derived.Test.YtmkcndaidopkpaaGreatDoorLa3
import Derived.Test.YtmkcndaidopkpaaGreatDoorLa4
import Derived.Test.YtmkcndaidopkpaaGreatDoorLa5
import Derived.Test.YtmkcndaidopkpaaGreatDoorLa6
import Derived.Test.YtmkcndaidopkpaaGreatDoorLa7
import Derived.Test.YtmkcndaidopkpaaGreatDoorLa8
namespace Go.Sx
open Go.Proofs Go.Proofs.YtmkcndaidopkpaaGreatDoor Go.ChangeShapes Go.WideShapes Go.ChangeAt Go.RowKit
noncomputable section
theorem from_rel' {φ : Em} {lo x : Nat} (h1 : lo ≤ x) (h2 : x ≤ 4294967295) : VRel φ (from_ lo) (.int .u32 (.ofNat x)) := .rng _ _ _ _ _ _ h1 h2 (Nat.mod_one x)
theorem rng_rel {φ : Em} {lo hi x : Nat} (h1 : lo ≤ x) (h2 : x ≤ hi) : VRel φ (.rng .u32 lo hi 1 0) (.int .u32 (.ofNat x)) := .rng _ _ _ _ _ _ h1 h2 (Nat.mod_one x)
theorem byte_rel' {φ : Em} {z : Nat} (h : z ≤ 255) : VRel φ (.rng .u8 0 255 1 0) (.int .u8 (.ofNat z)) := .rng _ _ _ _ _ _ (Nat.zero_le _) h (Nat.mod_one z)
theorem rels2 {φ : Em} {a b : AV} {u v : Value} (h1 : VRel φ a u) (h2 : VRel φ b v) : VRels φ [a, b] [u, v] := .cons _ _ _ _ h1 (.cons _ _ _ _ h2 .nil)

def Good (x z : Nat) : Prop := ∃ args, CallQ Tryz.prog 4 args H24 isTrue ∧ ∀ φ, VRels φ args [.int .u32 (.ofNat x), .int .u8 (.ofNat z)]
theorem good_one {x z : Nat} (hz : z ≤ 255) (h : law24 4 [] [u32 x, .rng .u8 0 255 1 0] = true) : Good x z := ⟨_, law24_ok h, fun _ => rels2 (.int _ _) (byte_rel' hz)⟩
theorem good_rng {lo hi x z : Nat} (hz : z ≤ 255) (h : law24 4 [] [.rng .u32 lo hi 1 0, .rng .u8 0 255 1 0] = true) (h1 : lo ≤ x) (h2 : x ≤ hi) : Good x z := ⟨_, law24_ok h, fun _ => rels2 (rng_rel h1 h2) (byte_rel' hz)⟩

theorem limits_q (x z : Nat) (hx : x ≤ 4294967295) (hz : z ≤ 255) : Good x z := by
  by_cases h206 : 206 ≤ x
  · exact ⟨_, law24_ok l_r206, fun _ => rels2 (from_rel' h206 hx) (byte_rel' hz)⟩
  by_cases h142 : 142 ≤ x
  · exact good_rng hz l_r142 h142 (by omega)
  by_cases h110 : 110 ≤ x
  · exact good_rng hz l_r110 h110 (by omega)
  by_cases h94 : 94 ≤ x
  · exact good_rng hz l_r94 h94 (by omega)
  by_cases h86 : 86 ≤ x
  · exact good_rng hz l_r86 h86 (by omega)
  by_cases h82 : 82 ≤ x
  · exact good_rng hz l_r82 h82 (by omega)
  by_cases h80 : 80 ≤ x
  · exact good_rng hz l_r80 h80 (by omega)
  have hlt : x < 80 := by omega
  match x, hlt with
  | 0, _ => exact good_one hz l_w0
  | 1, _ => exact good_one hz l_w1
  | 2, _ => exact good_one hz l_w2
  | 3, _ => exact good_one hz l_w3
  | 4, _ => exact good_one hz l_w4
  | 5, _ => exact good_one hz l_w5
  | 6, _ => exact good_one hz l_w6
  | 7, _ => exact good_one hz l_w7
  | 8, _ => exact good_one hz l_w8
  | 9, _ => exact good_one hz l_w9
  | 10, _ => exact good_one hz l_w10
  | 11, _ => exact good_one hz l_w11
  | 12, _ => exact good_one hz l_w12
  | 13, _ => exact good_one hz l_w13
  | 14, _ => exact good_one hz l_w14
  | 15, _ => exact good_one hz l_w15
  | 16, _ => exact good_one hz l_w16
  | 17, _ => exact good_one hz l_w17
  | 18, _ => exact good_one hz l_w18
  | 19, _ => exact good_one hz l_w19
  | 20, _ => exact good_one hz l_w20
  | 21, _ => exact good_one hz l_w21
  | 22, _ => exact good_one hz l_w22
  | 23, _ => exact good_one hz l_w23
  | 24, _ => exact good_one hz l_w24
  | 25, _ => exact good_one hz l_w25
  | 26, _ => exact good_one hz l_w26
  | 27, _ => exact good_one hz l_w27
  | 28, _ => exact good_one hz l_w28
  | 29, _ => exact good_one hz l_w29
  | 30, _ => exact good_one hz l_w30
  | 31, _ => exact good_one hz l_w31
  | 32, _ => exact good_one hz l_w32
  | 33, _ => exact good_one hz l_w33
  | 34, _ => exact good_one hz l_w34
  | 35, _ => exact good_one hz l_w35
  | 36, _ => exact good_one hz l_w36
  | 37, _ => exact good_one hz l_w37
  | 38, _ => exact good_one hz l_w38
  | 39, _ => exact good_one hz l_w39
  | 40, _ => exact good_one hz l_w40
  | 41, _ => exact good_one hz l_w41
  | 42, _ => exact good_one hz l_w42
  | 43, _ => exact good_one hz l_w43
  | 44, _ => exact good_one hz l_w44
  | 45, _ => exact good_one hz l_w45
  | 46, _ => exact good_one hz l_w46
  | 47, _ => exact good_one hz l_w47
  | 48, _ => exact good_one hz l_w48
  | 49, _ => exact good_one hz l_w49
  | 50, _ => exact good_one hz l_w50
  | 51, _ => exact good_one hz l_w51
  | 52, _ => exact good_one hz l_w52
  | 53, _ => exact good_one hz l_w53
  | 54, _ => exact good_one hz l_w54
  | 55, _ => exact good_one hz l_w55
  | 56, _ => exact good_one hz l_w56
  | 57, _ => exact good_one hz l_w57
  | 58, _ => exact good_one hz l_w58
  | 59, _ => exact good_one hz l_w59
  | 60, _ => exact good_one hz l_w60
  | 61, _ => exact good_one hz l_w61
  | 62, _ => exact good_one hz l_w62
  | 63, _ => exact good_one hz l_w63
  | 64, _ => exact good_one hz l_w64
  | 65, _ => exact good_one hz l_w65
  | 66, _ => exact good_one hz l_w66
  | 67, _ => exact good_one hz l_w67
  | 68, _ => exact good_one hz l_w68
  | 69, _ => exact good_one hz l_w69
  | 70, _ => exact good_one hz l_w70
  | 71, _ => exact good_one hz l_w71
  | 72, _ => exact good_one hz l_w72
  | 73, _ => exact good_one hz l_w73
  | 74, _ => exact good_one hz l_w74
  | 75, _ => exact good_one hz l_w75
  | 76, _ => exact good_one hz l_w76
  | 77, _ => exact good_one hz l_w77
  | 78, _ => exact good_one hz l_w78
  | 79, _ => exact good_one hz l_r79
  | n + 80, h => omega
end
end Go.Sx
