/- SessionNil: no session has links: a session that is not there answers each call as the section 'Errors' says, whatever is done, in each world in which the listed variables are laid. -/
import Derived.Test.YtmkcndaidopkpaaGreatDoorNH
import Derived.Test.YtmkcndaidopkpaaGreatDoorND
namespace Go.Proofs.YtmkcndaidopkpaaGreatDoor
open Go Go.Sx Go.ChangeShapes Go.WideShapes Go.ChangeAt Go.RowKit
theorem sessionNil_card : Rows.SessionNilCardSaid :=
  Claim7.holds_tied_plain_at .later [] [.mapped, .funcs] true (true, "f6ef3ff0e140d130478358fba5e56b6e02e1999b088b2d961338f5232d1a9895") true
    nil_holds (fun _ h => by cases h) nil_wf (fun _ h => by cases h) sessionNil_row_tie rfl ⟨rfl, rfl⟩ main_is rfl
    (fun f fn hf hfn => by
      obtain rfl : f = 7 := Option.some.inj (sessionNil_named.symm.trans hf) |>.symm
      obtain rfl : fn = Tryz.f7 := (Option.some.inj (Tryz.func7.symm.trans hfn)).symm
      exact ⟨looks_is, fun j t ht => by
        rw [Tryz.params7] at ht
        rcases j with _ | j
        · obtain rfl : t = 79 := by simpa using ht.symm
          exact stand79
        · simp at ht⟩)
    nil_goes
end Go.Proofs.YtmkcndaidopkpaaGreatDoor
#print axioms Go.Proofs.YtmkcndaidopkpaaGreatDoor.sessionNil_card
