/- SessionHandles: the row. -/
import Derived.Test.YtmkcndaidopkpaaGreatDoorHL
import Derived.Test.YtmkcndaidopkpaaGreatDoorHF
namespace Go.Proofs.YtmkcndaidopkpaaGreatDoor
open Go Go.Sx Go.ChangeShapes Go.WideShapes Go.ChangeAt Go.RowKit
theorem handles_holds : Rows.SessionHandlesSaid :=
  OpenClaim.holds_of_wide 3 Tryz.f3 rfl rfl rfl rfl rfl rfl rfl ⟨rfl, rfl, rfl, rfl, rfl⟩ rfl rfl rfl rfl rfl sessionHandles_named Tryz.func3 sessionHandles_facts
    sessionHandles_inst sessionHandles_wrap
    (fun os started H enc _ => handles_lifted os started H enc)
end Go.Proofs.YtmkcndaidopkpaaGreatDoor
