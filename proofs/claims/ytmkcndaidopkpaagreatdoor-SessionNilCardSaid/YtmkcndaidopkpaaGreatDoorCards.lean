/-
  DERIVED. GIVEN WITH THE SEED: THE CARDS: each row of YtmkcndaidopkpaaGreatDoorRows.lean that lists a variable, with what it lists TIED to the program's text (the seventh form; the later family's looks); each row that meets fmt, with fmt's text TOLD by the authors' own Lean function (tested against real Go, not proved from fmt's source: count such statements apart). THE CARD IS WHAT COUNTS. Prove the row's statement (the work); the ties are given (YtmkcndaidopkpaaGreatDoorTie.lean); close each card by the builder's one call (the guide's Derived/Test/ToyasCard.lean, 'card_holds'). Laid BY PROGRAM, IN A SANDBOX (cutbox-door.mjs). By AI agents, Wed Nov 11 2026. No macro, syntax, notation, axiom, sorry.
-/
import Derived.Test.YtmkcndaidopkpaaGreatDoorRows
import GoSem.ClaimSeven
namespace Go.Proofs.YtmkcndaidopkpaaGreatDoor
namespace Rows

/-- THE TIED CARD OF 'bellwetherlaw24.SessionHandles'. -/
def sessionHandlesCard : Claim7 := { stood := { row := sessionHandlesRow, standIns := [], harness := (true, "f6ef3ff0e140d130478358fba5e56b6e02e1999b088b2d961338f5232d1a9895"), looks := true }, kinds := [], alts := [], laidByText := true, laidKinds := [.mapped, .funcs], laidTests := true, laidLooks := .later }
def SessionHandlesCardSaid : Prop := Claim7.holds Tryz.pinned (.plain (OpenSpec.ofChange sessionHandlesSpec)) sessionHandlesCard

/-- THE TIED CARD OF 'bellwetherlaw24.SessionLimits'. -/
def sessionLimitsCard : Claim7 := { stood := { row := sessionLimitsRow, standIns := [], harness := (true, "f6ef3ff0e140d130478358fba5e56b6e02e1999b088b2d961338f5232d1a9895"), looks := true }, kinds := [], alts := [], laidByText := true, laidKinds := [.mapped, .funcs], laidTests := true, laidLooks := .later }
def SessionLimitsCardSaid : Prop := Claim7.holds Tryz.pinned (.plain (OpenSpec.ofChange sessionLimitsSpec)) sessionLimitsCard

/-- THE TIED CARD OF 'bellwetherlaw24.SessionMeets'. -/
def sessionMeetsCard : Claim7 := { stood := { row := sessionMeetsRow, standIns := [], harness := (true, "f6ef3ff0e140d130478358fba5e56b6e02e1999b088b2d961338f5232d1a9895"), looks := true }, kinds := [], alts := [], laidByText := true, laidKinds := [.mapped, .funcs], laidTests := true, laidLooks := .later }
def SessionMeetsCardSaid : Prop := Claim7.holds Tryz.pinned (.plain (OpenSpec.ofChange sessionMeetsSpec)) sessionMeetsCard

/-- THE TIED CARD OF 'bellwetherlaw24.SessionAll'. -/
def sessionAllCard : Claim7 := { stood := { row := sessionAllRow, standIns := [], harness := (true, "f6ef3ff0e140d130478358fba5e56b6e02e1999b088b2d961338f5232d1a9895"), looks := true }, kinds := [], alts := [], laidByText := true, laidKinds := [.mapped, .funcs], laidTests := true, laidLooks := .later }
def SessionAllCardSaid : Prop := Claim7.holds Tryz.pinned (.plain (OpenSpec.ofChange sessionAllSpec)) sessionAllCard

/-- THE TIED CARD OF 'bellwetherlaw24.SessionNil'. -/
def sessionNilCard : Claim7 := { stood := { row := sessionNilRow, standIns := [], harness := (true, "f6ef3ff0e140d130478358fba5e56b6e02e1999b088b2d961338f5232d1a9895"), looks := true }, kinds := [], alts := [], laidByText := true, laidKinds := [.mapped, .funcs], laidTests := true, laidLooks := .later }
def SessionNilCardSaid : Prop := Claim7.holds Tryz.pinned (.plain (OpenSpec.ofChange sessionNilSpec)) sessionNilCard

/-- THE SECOND FORM's CARD OF 'bellwetherlaw24.SessionHandles'. -/
def sessionHandlesUptoCard : Claim7 := { stood := { row := sessionHandlesUptoRow, standIns := [], harness := (true, "f6ef3ff0e140d130478358fba5e56b6e02e1999b088b2d961338f5232d1a9895"), looks := true }, kinds := [], alts := [], laidByText := true, laidKinds := [.mapped, .funcs], laidTests := true, laidLooks := .later }
def SessionHandlesUptoCardSaid : Prop := Claim7.holds Tryz.pinned (.plain (OpenSpec.upto sessionHandlesSpec)) sessionHandlesUptoCard

/-- THE SECOND FORM's CARD OF 'bellwetherlaw24.SessionLimits'. -/
def sessionLimitsUptoCard : Claim7 := { stood := { row := sessionLimitsUptoRow, standIns := [], harness := (true, "f6ef3ff0e140d130478358fba5e56b6e02e1999b088b2d961338f5232d1a9895"), looks := true }, kinds := [], alts := [], laidByText := true, laidKinds := [.mapped, .funcs], laidTests := true, laidLooks := .later }
def SessionLimitsUptoCardSaid : Prop := Claim7.holds Tryz.pinned (.plain (OpenSpec.upto sessionLimitsSpec)) sessionLimitsUptoCard

/-- THE SECOND FORM's CARD OF 'bellwetherlaw24.SessionMeets'. -/
def sessionMeetsUptoCard : Claim7 := { stood := { row := sessionMeetsUptoRow, standIns := [], harness := (true, "f6ef3ff0e140d130478358fba5e56b6e02e1999b088b2d961338f5232d1a9895"), looks := true }, kinds := [], alts := [], laidByText := true, laidKinds := [.mapped, .funcs], laidTests := true, laidLooks := .later }
def SessionMeetsUptoCardSaid : Prop := Claim7.holds Tryz.pinned (.plain (OpenSpec.upto sessionMeetsSpec)) sessionMeetsUptoCard

/-- THE SECOND FORM's CARD OF 'bellwetherlaw24.SessionAll'. -/
def sessionAllUptoCard : Claim7 := { stood := { row := sessionAllUptoRow, standIns := [], harness := (true, "f6ef3ff0e140d130478358fba5e56b6e02e1999b088b2d961338f5232d1a9895"), looks := true }, kinds := [], alts := [], laidByText := true, laidKinds := [.mapped, .funcs], laidTests := true, laidLooks := .later }
def SessionAllUptoCardSaid : Prop := Claim7.holds Tryz.pinned (.plain (OpenSpec.upto sessionAllSpec)) sessionAllUptoCard

/-- THE SECOND FORM's CARD OF 'bellwetherlaw24.SessionNil'. -/
def sessionNilUptoCard : Claim7 := { stood := { row := sessionNilUptoRow, standIns := [], harness := (true, "f6ef3ff0e140d130478358fba5e56b6e02e1999b088b2d961338f5232d1a9895"), looks := true }, kinds := [], alts := [], laidByText := true, laidKinds := [.mapped, .funcs], laidTests := true, laidLooks := .later }
def SessionNilUptoCardSaid : Prop := Claim7.holds Tryz.pinned (.plain (OpenSpec.upto sessionNilSpec)) sessionNilUptoCard
end Rows
end Go.Proofs.YtmkcndaidopkpaaGreatDoor
