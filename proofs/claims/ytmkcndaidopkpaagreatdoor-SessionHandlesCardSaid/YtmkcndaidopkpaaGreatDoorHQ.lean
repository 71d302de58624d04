/- SessionHandles: whatever the two greatest handles and whichever link goes, it returns true; the input reads as it did. -/
import Derived.Test.YtmkcndaidopkpaaGreatDoorL24c
import Derived.Test.YtmkcndaidopkpaaGreatDoorHa
import Derived.Test.YtmkcndaidopkpaaGreatDoorHb
import Derived.Test.YtmkcndaidopkpaaGreatDoorHc
namespace Go.Sx
open Go.Proofs Go.Proofs.YtmkcndaidopkpaaGreatDoor Go.ChangeShapes Go.WideShapes Go.ChangeAt Go.RowKit
noncomputable section

theorem from_rel {φ : Em} {lo x : Nat} (h1 : lo ≤ x) (h2 : x ≤ 4294967295) : VRel φ (from_ lo) (.int .u32 (.ofNat x)) := .rng _ _ _ _ _ _ h1 h2 (Nat.mod_one x)
theorem byte_rel {φ : Em} {z : Nat} (h : z ≤ 255) : VRel φ (.rng .u8 0 255 1 0) (.int .u8 (.ofNat z)) := .rng _ _ _ _ _ _ (Nat.zero_le _) h (Nat.mod_one z)
theorem rels3 {φ : Em} {a b c : AV} {u v w : Value} (h1 : VRel φ a u) (h2 : VRel φ b v) (h3 : VRel φ c w) : VRels φ [a, b, c] [u, v, w] := .cons _ _ _ _ h1 (.cons _ _ _ _ h2 (.cons _ _ _ _ h3 .nil))

theorem handles_q (x y z : Nat) (hx : x ≤ 4294967295) (hy : y ≤ 4294967295) (hz : z ≤ 255) :
    ∃ args, CallQ Tryz.prog 3 args H24 isTrue ∧ ∀ φ, VRels φ args [.int .u32 (.ofNat x), .int .u32 (.ofNat y), .int .u8 (.ofNat z)] := by
  by_cases h : 7 ≤ x ∧ 7 ≤ y
  · exact ⟨_, law24_ok h_c, fun φ => rels3 (from_rel h.1 hx) (from_rel h.2 hy) (byte_rel hz)⟩
  · by_cases hle : x ≤ y
    · have hm : x = 0 ∨ x = 1 ∨ x = 2 ∨ x = 3 ∨ x = 4 ∨ x = 5 ∨ x = 6 := by omega
      rcases hm with rfl | rfl | rfl | rfl | rfl | rfl | rfl
      · exact ⟨_, law24_ok h_a0, fun φ => rels3 (.int _ _) (from_rel hle hy) (byte_rel hz)⟩
      · exact ⟨_, law24_ok h_a1, fun φ => rels3 (.int _ _) (from_rel hle hy) (byte_rel hz)⟩
      · exact ⟨_, law24_ok h_a2, fun φ => rels3 (.int _ _) (from_rel hle hy) (byte_rel hz)⟩
      · exact ⟨_, law24_ok h_a3, fun φ => rels3 (.int _ _) (from_rel hle hy) (byte_rel hz)⟩
      · exact ⟨_, law24_ok h_a4, fun φ => rels3 (.int _ _) (from_rel hle hy) (byte_rel hz)⟩
      · exact ⟨_, law24_ok h_a5, fun φ => rels3 (.int _ _) (from_rel hle hy) (byte_rel hz)⟩
      · exact ⟨_, law24_ok h_a6, fun φ => rels3 (.int _ _) (from_rel hle hy) (byte_rel hz)⟩
    · have hm : y = 0 ∨ y = 1 ∨ y = 2 ∨ y = 3 ∨ y = 4 ∨ y = 5 ∨ y = 6 := by omega
      have hlt : y + 1 ≤ x := by omega
      rcases hm with rfl | rfl | rfl | rfl | rfl | rfl | rfl
      · exact ⟨_, law24_ok h_b0, fun φ => rels3 (from_rel hlt hx) (.int _ _) (byte_rel hz)⟩
      · exact ⟨_, law24_ok h_b1, fun φ => rels3 (from_rel hlt hx) (.int _ _) (byte_rel hz)⟩
      · exact ⟨_, law24_ok h_b2, fun φ => rels3 (from_rel hlt hx) (.int _ _) (byte_rel hz)⟩
      · exact ⟨_, law24_ok h_b3, fun φ => rels3 (from_rel hlt hx) (.int _ _) (byte_rel hz)⟩
      · exact ⟨_, law24_ok h_b4, fun φ => rels3 (from_rel hlt hx) (.int _ _) (byte_rel hz)⟩
      · exact ⟨_, law24_ok h_b5, fun φ => rels3 (from_rel hlt hx) (.int _ _) (byte_rel hz)⟩
      · exact ⟨_, law24_ok h_b6, fun φ => rels3 (from_rel hlt hx) (.int _ _) (byte_rel hz)⟩

theorem wf_u32 {n : Int} (h : (Lit.int .u32 n).wf = true) : ∃ x : Nat, n = .ofNat x ∧ x ≤ 4294967295 := by
  have h' : IntKind.min .u32 ≤ n ∧ n ≤ IntKind.max .u32 := by simpa [Lit.wf] using h
  have h1 : IntKind.min .u32 = 0 := rfl
  have h2 : IntKind.max .u32 = 4294967295 := rfl
  rw [h1, h2] at h'
  exact ⟨n.toNat, by simp; omega, by omega⟩
theorem wf_u8 {n : Int} (h : (Lit.int .u8 n).wf = true) : ∃ x : Nat, n = .ofNat x ∧ x ≤ 255 := by
  have h' : IntKind.min .u8 ≤ n ∧ n ≤ IntKind.max .u8 := by simpa [Lit.wf] using h
  have h1 : IntKind.min .u8 = 0 := rfl
  have h2 : IntKind.max .u8 = 255 := rfl
  rw [h1, h2] at h'
  exact ⟨n.toNat, by simp; omega, by omega⟩
end
end Go.Sx
