/- works() in each later world: what is laid stands, and each old block is as it was. -/
import Derived.Test.YtmkcndaidopkpaaGreatDoorL24b
import Derived.Below
namespace Go.Sx
open Go.Proofs Go.Proofs.YtmkcndaidopkpaaGreatDoor Go.ChangeShapes Go.WideShapes Go.RowKit
noncomputable section
theorem Laid.below {W w2 : World} {φ : Em} (L : Laid W φ) (hb : Below W.heap.size W w2) : Laid w2 φ := by
  have hlt : ∀ b, Lies φ H24 b → b < W.heap.size := fun b h => L.rel.lies_lt h
  refine ⟨L.rel.grow (fun b h => hb.block b (hlt b h)), fun φ' H' W' hs hr hx i hi => ?_⟩
  by_cases h : i < W.heap.size
  · have e1 : Ext φ φ H24 H24 W w2 := ⟨Le.refl φ, Nat.le_refl _, hb.size, fun b h1 _ => hb.block b h1, fun _ h => .inl h, fun _ _ h => .inl h, hb.os, hb.output, hb.tape, fun b u hu => by
      have hl := elemOf_lt hu
      unfold elemOf at *
      rw [hb.block b hl]; exact hu⟩
    rw [L.back φ' H' W' hs hr (e1.trans hx) i h, hb.block i h]
  · exact hx.frame i hi (fun hl => h (hlt i hl))

theorem works_at {W w2 : World} {φ : Em} (L : Laid W φ) (hb : Below W.heap.size W w2) : Calls Tryz.prog 13 #[] w2 fun e w3 => e = .returned (.bool true) ∧ Below w2.heap.size w2 w3 := by
  have L2 := L.below hb
  refine (works_q φ w2 #[] L2.rel .nil).mono ?_
  rintro e w3 ⟨v, H', φ', v', hv, rfl, hr, hrel, hext⟩
  unfold ans24 at hv
  rw [Bool.and_eq_true] at hv
  rw [rel_bool (weak_rel hv.1 hr)]
  exact ⟨rfl, hext.os, hext.tape, hext.output, hext.size, L2.back φ' H' w3 hv.2 hrel hext⟩
end
end Go.Sx
