/- SessionNil: the closed facts of its card. -/
import Derived.Test.YtmkcndaidopkpaaGreatDoorCards
import Derived.Test.YtmkcndaidopkpaaGreatDoorTie
import Derived.SevenTiedAt
import Derived.KernelRfl
namespace Go.Proofs.YtmkcndaidopkpaaGreatDoor
open Go
theorem nil_wf : Rows.sessionNilRow.wfByText (OpenSpec.ofChange Rows.sessionNilSpec) = true := by kernel_rfl
theorem main_is : Tryz.pinned.checked.prog.mainIs = some (true, "f6ef3ff0e140d130478358fba5e56b6e02e1999b088b2d961338f5232d1a9895".toList) := by kernel_rfl
theorem looks_is : true = Tryz.pinned.checked.prog.looks [] := by kernel_rfl
theorem stand79 : Tryz.prog.wantsStandIn 79 = false := by kernel_rfl
theorem nil_goes : false = Rows.sessionNilRow.goesBy Tryz.pinned.checked.prog := by kernel_rfl
end Go.Proofs.YtmkcndaidopkpaaGreatDoor
