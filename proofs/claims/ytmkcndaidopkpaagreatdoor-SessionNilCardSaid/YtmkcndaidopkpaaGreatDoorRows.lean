/-
  NARROWER THAN 'FOR EVERY INPUT', by the rows' own cells (each row's printed sentence says how): SessionHandles: laid · SessionLimits: laid · SessionMeets: laid · SessionAll: laid · SessionNil: laid.
  DERIVED. THE GIVEN ROWS OF THIS SEAT. 5 by the template 'for every input the law returns true; each argument reads behind the call as it read before'; 0 by the template 'total and deterministic' (their statements: YtmkcndaidopkpaaGreatDoorTotals.lean).
  GIVEN WITH THE SEED: the statements are not yours to turn. If you find one false, say at which input.
  Laid BY PROGRAM, IN A SANDBOX (cutbox-rows.mjs): the forced cells as the released guide's own fill.sh prints them over the translation 48c48db6fc03d3ba… (all of the seat's roots in one cut). By AI agents, Wed Nov 11 2026. No macro, syntax, notation, axiom, sorry.
-/
import Derived.Test.YtmkcndaidopkpaaGreatDoorChecked
import GoSem.Claim
import GoSem.ClaimJoined
import GoSem.ClaimMapViews
import Derived.JoinedTies
import Derived.KernelRfl
namespace Go.Proofs.YtmkcndaidopkpaaGreatDoor
/- THE CELL 'sum', in the pinned program and in every row, IS THE sha256 OF THE DUMP (.gsa) THAT YtmkcndaidopkpaaGreatDoorProg.lean LOADS. Nothing in Lean hashes anything: it is a label: what it is worth is what the hold of that sum in a sandbox is worth. -/
noncomputable def Tryz.pinned : Pinned := { name := "ytmkcndaidopkpaagreatdoor", sum := "48c48db6fc03d3bab0e53928b653e3d14de4037f12bf9d23b727028ed85bb13e", checked := Tryz.checked }
namespace Rows
def none {H : Type} : Left H := { results := [], args := [] }

/- WHAT THE LISTED PACKAGE-LEVEL VARIABLES READ AS WHEN THE CALL BEGINS. Each datum BY PROGRAM (the guide's laid-datum.mjs) off the statement by which the dump's own 'gosem.cut.vars' lays the variable. In a bare row this is a premise. The card (YtmkcndaidopkpaaGreatDoorCards.lean) ties it to the program's text. -/
def laid_bellwether_encode_codes {H : Type} : DataW H := .map [(.int .u8 1, .lit (.int .u8 64)), (.int .u8 3, .lit (.int .u8 80)), (.int .u8 4, .lit (.int .u8 96)), (.int .u8 7, .lit (.int .u8 81)), (.int .u8 8, .lit (.int .u8 97)), (.int .u8 11, .lit (.int .u8 114)), (.int .u8 12, .lit (.int .u8 130)), (.int .u8 13, .lit (.int .u8 115)), (.int .u8 14, .lit (.int .u8 131)), (.int .u8 15, .lit (.int .u8 152)), (.int .u8 16, .lit (.int .u8 116)), (.int .u8 17, .lit (.int .u8 132)), (.int .u8 18, .lit (.int .u8 148))]
def laid_bellwether_session_what {H : Type} : DataW H := .iface "func table" (.map [(.int .u8 3, .iface "func" (.lit (.string [40, 42, 98, 101, 108, 108, 119, 101, 116, 104, 101, 114, 47, 115, 101, 115, 115, 105, 111, 110, 46, 83, 101, 115, 115, 105, 111, 110, 41, 46, 97, 116, 116, 97, 99, 104, 101, 100]))), (.int .u8 4, .iface "func" (.lit (.string [40, 42, 98, 101, 108, 108, 119, 101, 116, 104, 101, 114, 47, 115, 101, 115, 115, 105, 111, 110, 46, 83, 101, 115, 115, 105, 111, 110, 41, 46, 102, 108, 111, 119, 101, 100]))), (.int .u8 5, .iface "func" (.lit (.string [40, 42, 98, 101, 108, 108, 119, 101, 116, 104, 101, 114, 47, 115, 101, 115, 115, 105, 111, 110, 46, 83, 101, 115, 115, 105, 111, 110, 41, 46, 116, 114, 97, 110, 115, 102, 101, 114, 114, 101, 100]))), (.int .u8 6, .iface "func" (.lit (.string [40, 42, 98, 101, 108, 108, 119, 101, 116, 104, 101, 114, 47, 115, 101, 115, 115, 105, 111, 110, 46, 83, 101, 115, 115, 105, 111, 110, 41, 46, 100, 105, 115, 112, 111, 115, 101, 100]))), (.int .u8 7, .iface "func" (.lit (.string [40, 42, 98, 101, 108, 108, 119, 101, 116, 104, 101, 114, 47, 115, 101, 115, 115, 105, 111, 110, 46, 83, 101, 115, 115, 105, 111, 110, 41, 46, 100, 101, 116, 97, 99, 104, 101, 100]))), (.int .u8 8, .iface "func" (.lit (.string [40, 42, 98, 101, 108, 108, 119, 101, 116, 104, 101, 114, 47, 115, 101, 115, 115, 105, 111, 110, 46, 83, 101, 115, 115, 105, 111, 110, 41, 46, 101, 110, 100, 101, 100])))])

/-- 'bellwetherlaw24.SessionHandles': WHATEVER THE INPUT: true; the input reads as it did. -/
def sessionHandlesSpec : ChangeSpec := { name := "sessionHandles", fn := fun _ => fun
  | [d1, d2, d3] => { results := [.lit (.bool true)], args := [d1, d2, d3] }
  | _ => none }
def sessionHandlesRow : OpenClaim := { program := "ytmkcndaidopkpaagreatdoor", sum := "48c48db6fc03d3bab0e53928b653e3d14de4037f12bf9d23b727028ed85bb13e", func := "bellwether/bellwetherlaw24.SessionHandles", spec := "sessionHandles", unfollowed := true, recurses := true, named := ["bellwether/session.what", "bellwether/encode.codes"], apart := false, laid := [("bellwether/encode.codes", laid_bellwether_encode_codes), ("bellwether/session.what", laid_bellwether_session_what)] }
def SessionHandlesSaid : Prop := sessionHandlesRow.holds Tryz.pinned (OpenSpec.ofChange sessionHandlesSpec)

/-- ITS FALSE NEIGHBOUR: 'it returns false'. Refute it at one input. -/
def sessionHandlesWrong : ChangeSpec := { name := "sessionHandles", fn := fun _ => fun
  | [d1, d2, d3] => { results := [.lit (.bool false)], args := [d1, d2, d3] }
  | _ => none }
def SessionHandlesWrongFalsely : Prop := sessionHandlesRow.holds Tryz.pinned (OpenSpec.ofChange sessionHandlesWrong)

/-- 'bellwetherlaw24.SessionLimits': WHATEVER THE INPUT: true; the input reads as it did. -/
def sessionLimitsSpec : ChangeSpec := { name := "sessionLimits", fn := fun _ => fun
  | [d1, d2] => { results := [.lit (.bool true)], args := [d1, d2] }
  | _ => none }
def sessionLimitsRow : OpenClaim := { program := "ytmkcndaidopkpaagreatdoor", sum := "48c48db6fc03d3bab0e53928b653e3d14de4037f12bf9d23b727028ed85bb13e", func := "bellwether/bellwetherlaw24.SessionLimits", spec := "sessionLimits", unfollowed := true, recurses := true, named := ["bellwether/session.what", "bellwether/encode.codes"], apart := false, laid := [("bellwether/encode.codes", laid_bellwether_encode_codes), ("bellwether/session.what", laid_bellwether_session_what)] }
def SessionLimitsSaid : Prop := sessionLimitsRow.holds Tryz.pinned (OpenSpec.ofChange sessionLimitsSpec)

/-- ITS FALSE NEIGHBOUR: 'it returns false'. Refute it at one input. -/
def sessionLimitsWrong : ChangeSpec := { name := "sessionLimits", fn := fun _ => fun
  | [d1, d2] => { results := [.lit (.bool false)], args := [d1, d2] }
  | _ => none }
def SessionLimitsWrongFalsely : Prop := sessionLimitsRow.holds Tryz.pinned (OpenSpec.ofChange sessionLimitsWrong)

/-- 'bellwetherlaw24.SessionMeets': WHATEVER THE INPUT: true; the input reads as it did. -/
def sessionMeetsSpec : ChangeSpec := { name := "sessionMeets", fn := fun _ => fun
  | [d1, d2, d3, d4] => { results := [.lit (.bool true)], args := [d1, d2, d3, d4] }
  | _ => none }
def sessionMeetsRow : OpenClaim := { program := "ytmkcndaidopkpaagreatdoor", sum := "48c48db6fc03d3bab0e53928b653e3d14de4037f12bf9d23b727028ed85bb13e", func := "bellwether/bellwetherlaw24.SessionMeets", spec := "sessionMeets", unfollowed := true, recurses := true, named := ["bellwether/session.what", "bellwether/encode.codes"], apart := false, laid := [("bellwether/encode.codes", laid_bellwether_encode_codes), ("bellwether/session.what", laid_bellwether_session_what)] }
def SessionMeetsSaid : Prop := sessionMeetsRow.holds Tryz.pinned (OpenSpec.ofChange sessionMeetsSpec)

/-- ITS FALSE NEIGHBOUR: 'it returns false'. Refute it at one input. -/
def sessionMeetsWrong : ChangeSpec := { name := "sessionMeets", fn := fun _ => fun
  | [d1, d2, d3, d4] => { results := [.lit (.bool false)], args := [d1, d2, d3, d4] }
  | _ => none }
def SessionMeetsWrongFalsely : Prop := sessionMeetsRow.holds Tryz.pinned (OpenSpec.ofChange sessionMeetsWrong)

/-- 'bellwetherlaw24.SessionAll': WHATEVER THE INPUT: true; the input reads as it did. -/
def sessionAllSpec : ChangeSpec := { name := "sessionAll", fn := fun _ => fun
  | [d1, d2, d3, d4, d5] => { results := [.lit (.bool true)], args := [d1, d2, d3, d4, d5] }
  | _ => none }
def sessionAllRow : OpenClaim := { program := "ytmkcndaidopkpaagreatdoor", sum := "48c48db6fc03d3bab0e53928b653e3d14de4037f12bf9d23b727028ed85bb13e", func := "bellwether/bellwetherlaw24.SessionAll", spec := "sessionAll", unfollowed := true, recurses := true, named := ["bellwether/session.what", "bellwether/encode.codes"], apart := false, laid := [("bellwether/encode.codes", laid_bellwether_encode_codes), ("bellwether/session.what", laid_bellwether_session_what)] }
def SessionAllSaid : Prop := sessionAllRow.holds Tryz.pinned (OpenSpec.ofChange sessionAllSpec)

/-- ITS FALSE NEIGHBOUR: 'it returns false'. Refute it at one input. -/
def sessionAllWrong : ChangeSpec := { name := "sessionAll", fn := fun _ => fun
  | [d1, d2, d3, d4, d5] => { results := [.lit (.bool false)], args := [d1, d2, d3, d4, d5] }
  | _ => none }
def SessionAllWrongFalsely : Prop := sessionAllRow.holds Tryz.pinned (OpenSpec.ofChange sessionAllWrong)

/-- 'bellwetherlaw24.SessionNil': WHATEVER THE INPUT: true; the input reads as it did. -/
def sessionNilSpec : ChangeSpec := { name := "sessionNil", fn := fun _ => fun
  | [d] => { results := [.lit (.bool true)], args := [d] }
  | _ => none }
def sessionNilRow : OpenClaim := { program := "ytmkcndaidopkpaagreatdoor", sum := "48c48db6fc03d3bab0e53928b653e3d14de4037f12bf9d23b727028ed85bb13e", func := "bellwether/bellwetherlaw24.SessionNil", spec := "sessionNil", unfollowed := true, recurses := true, named := ["bellwether/session.what", "bellwether/encode.codes"], apart := false, laid := [("bellwether/encode.codes", laid_bellwether_encode_codes), ("bellwether/session.what", laid_bellwether_session_what)] }
def SessionNilSaid : Prop := sessionNilRow.holds Tryz.pinned (OpenSpec.ofChange sessionNilSpec)

/-- ITS FALSE NEIGHBOUR: 'it returns false'. Refute it at one input. -/
def sessionNilWrong : ChangeSpec := { name := "sessionNil", fn := fun _ => fun
  | [d] => { results := [.lit (.bool false)], args := [d] }
  | _ => none }
def SessionNilWrongFalsely : Prop := sessionNilRow.holds Tryz.pinned (OpenSpec.ofChange sessionNilWrong)

/- THE SECOND FORM. 'bulk': how many values and letters a reading holds, each counted each time it is reached (what is shared counts as often as it is met; a slice's spare places count too). A statement '..UptoSaid' is the law's where the arguments, and the package variables that the reading takes, are together of bulk at most 1048576: NARROWER than '..Said'. Prove '..Said' where nothing that the law and all that it calls make is longer than what came in: it says more and counts as full. Else prove '..UptoSaid'. A law counts once. -/
mutual
def uptoBulk {H : Type} : DataW H → Nat
  | .lit (.string bytes) => bytes.length + 1
  | .lit _ => 1
  | .nil => 1
  | .ptr d => uptoBulk d + 1
  | .slice elems spare => uptoBulkAll elems + uptoBulkAll spare + 1
  | .agg parts => uptoBulkAll parts + 1
  | .iface _ d => uptoBulk d + 1
  | .map entries => uptoBulkEntries entries + 1
  | .held _ => 1
def uptoBulkAll {H : Type} : List (DataW H) → Nat
  | [] => 0
  | d :: r => uptoBulk d + uptoBulkAll r
def uptoBulkEntries {H : Type} : List (Lit × DataW H) → Nat
  | [] => 0
  | x :: r => uptoBulkEntry x + uptoBulkEntries r
def uptoBulkEntry {H : Type} : Lit × DataW H → Nat
  | (.string bytes, d) => bytes.length + uptoBulk d + 1
  | (_, d) => uptoBulk d + 1
 end
def uptoSmall : (H : Type) → List (DataW H) → Bool := fun _ ds => decide (uptoBulkAll ds ≤ 1048576)
def OpenSpec.upto (s : _root_.Go.ChangeSpec) : _root_.Go.OpenSpec := { _root_.Go.OpenSpec.ofChange s with cond := some uptoSmall }

/-- 'bellwetherlaw24.SessionHandles', WHERE WHAT IT READS IS OF BULK AT MOST 1048576: true; the input reads as it did. -/
def sessionHandlesUptoRow : OpenClaim := { program := "ytmkcndaidopkpaagreatdoor", sum := "48c48db6fc03d3bab0e53928b653e3d14de4037f12bf9d23b727028ed85bb13e", func := "bellwether/bellwetherlaw24.SessionHandles", spec := "sessionHandles", unfollowed := true, recurses := true, named := ["bellwether/session.what", "bellwether/encode.codes"], apart := false, laid := [("bellwether/encode.codes", laid_bellwether_encode_codes), ("bellwether/session.what", laid_bellwether_session_what)], narrowed := true }
def SessionHandlesUptoSaid : Prop := sessionHandlesUptoRow.holds Tryz.pinned (OpenSpec.upto sessionHandlesSpec)

/-- 'bellwetherlaw24.SessionLimits', WHERE WHAT IT READS IS OF BULK AT MOST 1048576: true; the input reads as it did. -/
def sessionLimitsUptoRow : OpenClaim := { program := "ytmkcndaidopkpaagreatdoor", sum := "48c48db6fc03d3bab0e53928b653e3d14de4037f12bf9d23b727028ed85bb13e", func := "bellwether/bellwetherlaw24.SessionLimits", spec := "sessionLimits", unfollowed := true, recurses := true, named := ["bellwether/session.what", "bellwether/encode.codes"], apart := false, laid := [("bellwether/encode.codes", laid_bellwether_encode_codes), ("bellwether/session.what", laid_bellwether_session_what)], narrowed := true }
def SessionLimitsUptoSaid : Prop := sessionLimitsUptoRow.holds Tryz.pinned (OpenSpec.upto sessionLimitsSpec)

/-- 'bellwetherlaw24.SessionMeets', WHERE WHAT IT READS IS OF BULK AT MOST 1048576: true; the input reads as it did. -/
def sessionMeetsUptoRow : OpenClaim := { program := "ytmkcndaidopkpaagreatdoor", sum := "48c48db6fc03d3bab0e53928b653e3d14de4037f12bf9d23b727028ed85bb13e", func := "bellwether/bellwetherlaw24.SessionMeets", spec := "sessionMeets", unfollowed := true, recurses := true, named := ["bellwether/session.what", "bellwether/encode.codes"], apart := false, laid := [("bellwether/encode.codes", laid_bellwether_encode_codes), ("bellwether/session.what", laid_bellwether_session_what)], narrowed := true }
def SessionMeetsUptoSaid : Prop := sessionMeetsUptoRow.holds Tryz.pinned (OpenSpec.upto sessionMeetsSpec)

/-- 'bellwetherlaw24.SessionAll', WHERE WHAT IT READS IS OF BULK AT MOST 1048576: true; the input reads as it did. -/
def sessionAllUptoRow : OpenClaim := { program := "ytmkcndaidopkpaagreatdoor", sum := "48c48db6fc03d3bab0e53928b653e3d14de4037f12bf9d23b727028ed85bb13e", func := "bellwether/bellwetherlaw24.SessionAll", spec := "sessionAll", unfollowed := true, recurses := true, named := ["bellwether/session.what", "bellwether/encode.codes"], apart := false, laid := [("bellwether/encode.codes", laid_bellwether_encode_codes), ("bellwether/session.what", laid_bellwether_session_what)], narrowed := true }
def SessionAllUptoSaid : Prop := sessionAllUptoRow.holds Tryz.pinned (OpenSpec.upto sessionAllSpec)

/-- 'bellwetherlaw24.SessionNil', WHERE WHAT IT READS IS OF BULK AT MOST 1048576: true; the input reads as it did. -/
def sessionNilUptoRow : OpenClaim := { program := "ytmkcndaidopkpaagreatdoor", sum := "48c48db6fc03d3bab0e53928b653e3d14de4037f12bf9d23b727028ed85bb13e", func := "bellwether/bellwetherlaw24.SessionNil", spec := "sessionNil", unfollowed := true, recurses := true, named := ["bellwether/session.what", "bellwether/encode.codes"], apart := false, laid := [("bellwether/encode.codes", laid_bellwether_encode_codes), ("bellwether/session.what", laid_bellwether_session_what)], narrowed := true }
def SessionNilUptoSaid : Prop := sessionNilUptoRow.holds Tryz.pinned (OpenSpec.upto sessionNilSpec)

end Rows
end Go.Proofs.YtmkcndaidopkpaaGreatDoor
