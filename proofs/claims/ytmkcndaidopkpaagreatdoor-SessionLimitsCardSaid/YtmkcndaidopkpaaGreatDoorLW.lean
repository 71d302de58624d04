/- What a number's fitting its kind says. -/
import Derived.Test.YtmkcndaidopkpaaGreatDoorL24c
namespace Go.Sx
open Go.Proofs
noncomputable section
theorem wf_u32 {n : Int} (h : (Lit.int .u32 n).wf = true) : ∃ x : Nat, n = .ofNat x ∧ x ≤ 4294967295 := by
  have h' : IntKind.min .u32 ≤ n ∧ n ≤ IntKind.max .u32 := by simpa [Lit.wf] using h
  have h1 : IntKind.min .u32 = 0 := rfl
  have h2 : IntKind.max .u32 = 4294967295 := rfl
  rw [h1, h2] at h'
  exact ⟨n.toNat, by simp; omega, by omega⟩
theorem wf_u8 {n : Int} (h : (Lit.int .u8 n).wf = true) : ∃ x : Nat, n = .ofNat x ∧ x ≤ 255 := by
  have h' : IntKind.min .u8 ≤ n ∧ n ≤ IntKind.max .u8 := by simpa [Lit.wf] using h
  have h1 : IntKind.min .u8 = 0 := rfl
  have h2 : IntKind.max .u8 = 255 := rfl
  rw [h1, h2] at h'
  exact ⟨n.toNat, by simp; omega, by omega⟩
end
end Go.Sx
