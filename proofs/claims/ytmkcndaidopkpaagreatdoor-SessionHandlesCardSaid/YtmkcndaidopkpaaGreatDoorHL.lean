/- SessionHandles: the call, in each world that the row speaks of. -/
import Derived.Test.YtmkcndaidopkpaaGreatDoorHQ
namespace Go.Proofs.YtmkcndaidopkpaaGreatDoor
open Go Go.Sx Go.ChangeShapes Go.WideShapes Go.ChangeAt Go.RowKit
set_option maxRecDepth 100000 in
theorem handles_lifted (os : Os) (started : os.Started) (H : Type) (enc : TypeId × Value → H) :
    ReturnsInHanded {} Tryz.checked os 3 .any (fun w args => (Rows.sessionHandlesSpec.pre enc Tryz.prog Tryz.f3 [] false w args ∧ laidMetH Tryz.prog laid2 w) ∧ sizedMet enc Tryz.prog Tryz.f3 (OpenSpec.ofChange Rows.sessionHandlesSpec) false w args)
      (Rows.sessionHandlesSpec.post enc Tryz.prog Tryz.f3 false true false false) := by
  refine returnsInHanded_sh (C := Tryz.checked) (X := fun w _ => laidMetH Tryz.prog laid2 w) (fun _ _ _ hh h => h.of_heap hh) own24 started (by kernel_rfl) Tryz.func3
    (ChangeSpec.witness_shaped (enc := enc) (C := Tryz.checked) (os := os) (X := fun w _ => laidMetH Tryz.prog laid2 w) false (World.doorLaid Tryz.prog 600 os) #[.int .u32 0, .int .u32 0, .int .u8 0] 8 rfl (door_shaped os _) (by kernel_rfl) (by kernel_rfl) (by kernel_rfl) (door_met os _)) ?_
  intro W base args ds gs before hsh hval0 hW hL
  have hval : ∀ (j : Nat) t v, Tryz.f3.params[j]? = some t → args[j]? = some v → Value.okWide Tryz.prog W .any base t v := hval0
  have hW' := hW
  obtain ⟨p, q, hA0, hV, rfl, hfz, hnd⟩ := hW
  have hA : DataW.TrodAll enc Tryz.prog W 0 (fun _ => true) true Tryz.f3.params.toList args.toList ds p := hA0
  rw [Tryz.params3] at hA hval
  obtain ⟨v0, v1, v2, d0, d1, d2, p0, p1, p2, rfl, rfl, rfl, h0, h1, h2⟩ := trodAll_three hA
  obtain ⟨rfl, rfl⟩ := trodVars_none hV
  obtain ⟨a, rfl, rfl, rfl, wa⟩ := open_int Tryz.underlying22 (hval 0 22 v0 rfl rfl) h0
  obtain ⟨b, rfl, rfl, rfl, wb⟩ := open_int Tryz.underlying22 (hval 1 22 v1 rfl rfl) h1
  obtain ⟨c, rfl, rfl, rfl, wc⟩ := open_int Tryz.underlying5 (hval 2 5 v2 rfl rfl) h2
  obtain ⟨x, rfl, hx⟩ := wf_u32 wa
  obtain ⟨y, rfl, hy⟩ := wf_u32 wb
  obtain ⟨z, rfl, hz⟩ := wf_u8 wc
  obtain ⟨av, hq, hr⟩ := handles_q x y z hx hy hz
  refine (law_calls (args' := #[.int .u32 (.ofNat x), .int .u32 (.ofNat y), .int .u8 (.ofNat z)]) hq hsh hL hr).mono fun e W' ⟨he, g1, g2, g3⟩ => ?_
  subst he
  refine ⟨_, rfl, _, _, _, [], [], [], hW', ?_, ?_, ?_, kept_of g1 g2 g3 _, fun h => by cases h⟩
  · exact trodAll_mk1 (shut_bool Tryz.underlying4 true)
  · show DataW.TrodAll enc Tryz.prog W' 0 _ true Tryz.f3.params.toList _ _ _
    rw [Tryz.params3]
    exact trodAll_mk3 (shut_int Tryz.underlying22 wa) (shut_int Tryz.underlying22 wb) (shut_int Tryz.underlying5 wc)
  · rfl

end Go.Proofs.YtmkcndaidopkpaaGreatDoor
