/- SessionLimits: the card. -/
import Derived.Test.YtmkcndaidopkpaaGreatDoorLH
import Derived.Test.YtmkcndaidopkpaaGreatDoorLD
namespace Go.Proofs.YtmkcndaidopkpaaGreatDoor
open Go Go.Sx Go.ChangeShapes Go.WideShapes Go.ChangeAt Go.RowKit
theorem sessionLimits_card : Rows.SessionLimitsCardSaid :=
  Claim7.holds_tied_plain_at .later [] [.mapped, .funcs] true (true, "f6ef3ff0e140d130478358fba5e56b6e02e1999b088b2d961338f5232d1a9895") true
    limits_holds (fun _ h => by cases h) limits_wf (fun _ h => by cases h) sessionLimits_row_tie rfl ⟨rfl, rfl⟩ main_is rfl
    (fun f fn hf hfn => by
      obtain rfl : f = 4 := Option.some.inj (sessionLimits_named.symm.trans hf) |>.symm
      obtain rfl : fn = Tryz.f4 := (Option.some.inj (Tryz.func4.symm.trans hfn)).symm
      exact ⟨looks_is, fun j t ht => by
        rw [Tryz.params4] at ht
        rcases j with _ | _ | j
        · obtain rfl : t = 22 := by simpa using ht.symm
          exact stand22
        · obtain rfl : t = 5 := by simpa using ht.symm
          exact stand5
        · simp at ht⟩)
    limits_goes
end Go.Proofs.YtmkcndaidopkpaaGreatDoor
#print axioms Go.Proofs.YtmkcndaidopkpaaGreatDoor.sessionLimits_card
