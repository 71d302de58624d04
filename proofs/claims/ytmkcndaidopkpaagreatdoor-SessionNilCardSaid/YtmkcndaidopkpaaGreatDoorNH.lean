/- SessionNil: the row. -/
import Derived.Test.YtmkcndaidopkpaaGreatDoorNL
namespace Go.Proofs.YtmkcndaidopkpaaGreatDoor
open Go Go.Sx Go.ChangeShapes Go.WideShapes Go.ChangeAt Go.RowKit
theorem nil_holds : Rows.SessionNilSaid :=
  OpenClaim.holds_of_wide 7 Tryz.f7 rfl rfl rfl rfl rfl rfl rfl ⟨rfl, rfl, rfl, rfl, rfl⟩ rfl rfl rfl rfl rfl sessionNil_named Tryz.func7 sessionNil_facts
    sessionNil_inst sessionNil_wrap
    (fun os started H enc _ => nil_lifted os started H enc)
end Go.Proofs.YtmkcndaidopkpaaGreatDoor
