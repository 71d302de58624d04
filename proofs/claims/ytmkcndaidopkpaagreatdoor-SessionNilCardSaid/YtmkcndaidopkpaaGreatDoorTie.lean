/-
  DERIVED. GIVEN WITH THE SEED: THE PROGRAM's TIES (one call each: nine closed facts by the kernel) AND EACH ROW's TIE, after the 31st guide's Derived/Test/Toyas{Tie, Card}.lean. No idea stands in it: it is a product of the set-up. Laid BY PROGRAM, IN A SANDBOX (cutbox-door.mjs). By AI agents, Wed Nov 11 2026. No macro, syntax, notation, axiom, sorry.
-/
import Derived.Test.YtmkcndaidopkpaaGreatDoorRows
import Derived.LaidByTextLater
import Derived.SevenTiedAt
import Derived.LaidSub
import Derived.LaidOnce
namespace Go.Proofs.YtmkcndaidopkpaaGreatDoor
open Go
set_option maxRecDepth 100000
theorem seatTie1 : Tryz.prog.laidByTextLater [("bellwether/encode.codes", Rows.laid_bellwether_encode_codes), ("bellwether/session.what", Rows.laid_bellwether_session_what)] [.mapped, .funcs] true :=
  Program.laidByTextLater_by_one 114 8 2 (by kernel_rfl) (by kernel_rfl) (by kernel_rfl) (by kernel_rfl) (by kernel_rfl) (by kernel_rfl) (fun _ _ => by kernel_rfl)
theorem noOwnUnsafe : Tryz.pinned.checked.prog.headLifts.contains "ownunsafe" = false := by kernel_rfl
theorem tie : Tryz.prog.laidByTextLater [("bellwether/encode.codes", Rows.laid_bellwether_encode_codes), ("bellwether/session.what", Rows.laid_bellwether_session_what)] [.mapped, .funcs] true :=
  Program.laidByTextLater.sub seatTie1 ["bellwether/encode.codes", "bellwether/session.what"] (by kernel_rfl) (by kernel_rfl)
theorem sessionHandles_row_tie : Rows.sessionHandlesRow.laidByTextAt .later Tryz.pinned [.mapped, .funcs] true :=
  OpenClaim.laidByTextAt_later rfl rfl tie noOwnUnsafe
theorem sessionLimits_row_tie : Rows.sessionLimitsRow.laidByTextAt .later Tryz.pinned [.mapped, .funcs] true :=
  OpenClaim.laidByTextAt_later rfl rfl tie noOwnUnsafe
theorem sessionMeets_row_tie : Rows.sessionMeetsRow.laidByTextAt .later Tryz.pinned [.mapped, .funcs] true :=
  OpenClaim.laidByTextAt_later rfl rfl tie noOwnUnsafe
theorem sessionAll_row_tie : Rows.sessionAllRow.laidByTextAt .later Tryz.pinned [.mapped, .funcs] true :=
  OpenClaim.laidByTextAt_later rfl rfl tie noOwnUnsafe
theorem sessionNil_row_tie : Rows.sessionNilRow.laidByTextAt .later Tryz.pinned [.mapped, .funcs] true :=
  OpenClaim.laidByTextAt_later rfl rfl tie noOwnUnsafe
theorem sessionHandlesUpto_row_tie : Rows.sessionHandlesUptoRow.laidByTextAt .later Tryz.pinned [.mapped, .funcs] true :=
  OpenClaim.laidByTextAt_later rfl rfl tie noOwnUnsafe
theorem sessionLimitsUpto_row_tie : Rows.sessionLimitsUptoRow.laidByTextAt .later Tryz.pinned [.mapped, .funcs] true :=
  OpenClaim.laidByTextAt_later rfl rfl tie noOwnUnsafe
theorem sessionMeetsUpto_row_tie : Rows.sessionMeetsUptoRow.laidByTextAt .later Tryz.pinned [.mapped, .funcs] true :=
  OpenClaim.laidByTextAt_later rfl rfl tie noOwnUnsafe
theorem sessionAllUpto_row_tie : Rows.sessionAllUptoRow.laidByTextAt .later Tryz.pinned [.mapped, .funcs] true :=
  OpenClaim.laidByTextAt_later rfl rfl tie noOwnUnsafe
theorem sessionNilUpto_row_tie : Rows.sessionNilUptoRow.laidByTextAt .later Tryz.pinned [.mapped, .funcs] true :=
  OpenClaim.laidByTextAt_later rfl rfl tie noOwnUnsafe
end Go.Proofs.YtmkcndaidopkpaaGreatDoor
