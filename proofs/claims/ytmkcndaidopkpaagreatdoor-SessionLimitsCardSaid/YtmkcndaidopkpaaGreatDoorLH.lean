/- SessionLimits: the row. -/
import Derived.Test.YtmkcndaidopkpaaGreatDoorLL
import Derived.Test.YtmkcndaidopkpaaGreatDoorLF
namespace Go.Proofs.YtmkcndaidopkpaaGreatDoor
open Go Go.Sx Go.ChangeShapes Go.WideShapes Go.ChangeAt Go.RowKit
theorem limits_holds : Rows.SessionLimitsSaid :=
  OpenClaim.holds_of_wide 4 Tryz.f4 rfl rfl rfl rfl rfl rfl rfl ⟨rfl, rfl, rfl, rfl, rfl⟩ rfl rfl rfl rfl rfl sessionLimits_named Tryz.func4 sessionLimits_facts
    sessionLimits_inst sessionLimits_wrap
    (fun os started H enc _ => limits_lifted os started H enc)
end Go.Proofs.YtmkcndaidopkpaaGreatDoor
