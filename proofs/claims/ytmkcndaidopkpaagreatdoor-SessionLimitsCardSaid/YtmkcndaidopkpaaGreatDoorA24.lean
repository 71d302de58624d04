/- The Attach of a name, as perform.Put gets it. -/
import Derived.Test.YtmkcndaidopkpaaGreatDoorW24
namespace Go.Sx
open Go.Proofs
noncomputable section
def setAt : List AV → Nat → AV → List AV
  | [], _, _ => []
  | x :: r, n, v => match n with | 0 => v :: r | m + 1 => x :: setAt r m v
def perZ : List AV := match zeroOf Tryz.prog 39 with | some v => cellsOf v | none => []
def att (s : List Nat) (b : Bool) : AV := .agg (setAt (setAt (setAt perZ 0 (.int .u8 3)) 11 (.str s)) 13 (.bool b))
def okPut (v : AV) (H' : Hp) : Bool := ans24 (.tup [.agg [.any, .any, .any, .any], .int .i64 0]) v H'
end
end Go.Sx
