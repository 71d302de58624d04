/- SessionHandles: the card. -/
import Derived.Test.YtmkcndaidopkpaaGreatDoorHH
import Derived.Test.YtmkcndaidopkpaaGreatDoorHD
namespace Go.Proofs.YtmkcndaidopkpaaGreatDoor
open Go Go.Sx Go.ChangeShapes Go.WideShapes Go.ChangeAt Go.RowKit
theorem sessionHandles_card : Rows.SessionHandlesCardSaid :=
  Claim7.holds_tied_plain_at .later [] [.mapped, .funcs] true (true, "f6ef3ff0e140d130478358fba5e56b6e02e1999b088b2d961338f5232d1a9895") true
    handles_holds (fun _ h => by cases h) handles_wf (fun _ h => by cases h) sessionHandles_row_tie rfl ⟨rfl, rfl⟩ main_is rfl
    (fun f fn hf hfn => by
      obtain rfl : f = 3 := Option.some.inj (sessionHandles_named.symm.trans hf) |>.symm
      obtain rfl : fn = Tryz.f3 := (Option.some.inj (Tryz.func3.symm.trans hfn)).symm
      exact ⟨looks_is, fun j t ht => by
        rw [Tryz.params3] at ht
        rcases j with _ | _ | _ | j
        · obtain rfl : t = 22 := by simpa using ht.symm
          exact stand22
        · obtain rfl : t = 22 := by simpa using ht.symm
          exact stand22
        · obtain rfl : t = 5 := by simpa using ht.symm
          exact stand5
        · simp at ht⟩)
    handles_goes
end Go.Proofs.YtmkcndaidopkpaaGreatDoor
#print axioms Go.Proofs.YtmkcndaidopkpaaGreatDoor.sessionHandles_card
