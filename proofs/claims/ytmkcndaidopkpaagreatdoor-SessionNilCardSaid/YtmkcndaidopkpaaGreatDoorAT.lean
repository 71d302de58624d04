import Derived.Test.YtmkcndaidopkpaaGreatDoorCO
namespace Go.Proofs.YtmkcndaidopkpaaGreatDoor
open Go Go.ChangeShapes Go.WideShapes Go.ChangeAt Go.RowKit
set_option maxRecDepth 100000
set_option maxHeartbeats 4000000
theorem attach_nil (c0 : Int) (c1 : ByteArray) (c2 : ByteArray) (c3 : Int) (c4 : Int) (c5 : Int) (c6 : Int) (c7 : Int) (c8 : Int) (c9 : Int) (c10 : Int) (c11 : ByteArray) (c12 : Int) (c13 : Bool) (c14 : Int) (c15 : Int) (c16 : ByteArray) (c17 : ByteArray) (p18 : Option Addr) (l18 k18 : Nat) (c19 : Int) (c20 : Int) (c21 : Int) (c22 : Bool) (c23 : Bool) (c24 : Int) (c25 : Int) (c26 : ByteArray) (c27 : Bool) (c28 : Bool) (c29 : Bool) (c30 : Bool) (c31 : Int) (c32 : Int) (c33 : Int) (c34 : ByteArray) (p35 : Option Addr) (l35 k35 : Nat) (c36 : Bool) (c37 : ByteArray) (w : World) : Calls Tryz.prog 10 #[.pointer none, .agg #[.int .u8 c0, .string c1, .string c2, .int .u32 c3, .int .u16 c4, .int .u32 c5, .int .i64 c6, .int .u32 c7, .int .u32 c8, .int .u32 c9, .int .u32 c10, .string c11, .int .i64 c12, .bool c13, .int .u8 c14, .int .u8 c15, .string c16, .string c17, .slice p18 l18 k18, .int .u32 c19, .int .i64 c20, .int .u32 c21, .bool c22, .bool c23, .int .i64 c24, .int .u32 c25, .string c26, .bool c27, .bool c28, .bool c29, .bool c30, .int .u8 c31, .int .u64 c32, .int .u64 c33, .string c34, .slice p35 l35 k35, .bool c36, .string c37]] w fun e w' => e = .returned (.tuple #[.int .i64 0, .int .i64 2]) ∧ Below w.heap.size w w' := by
  go_enter Tryz.func10, Tryz.ntmps10
  go_wp2
  go_returns
  refine ⟨rfl, ?_⟩
  go_grown
theorem in_nil (c0 : Int) (c1 : ByteArray) (c2 : ByteArray) (c3 : Int) (c4 : Int) (c5 : Int) (c6 : Int) (c7 : Int) (c8 : Int) (c9 : Int) (c10 : Int) (c11 : ByteArray) (c12 : Int) (c13 : Bool) (c14 : Int) (c15 : Int) (c16 : ByteArray) (c17 : ByteArray) (p18 : Option Addr) (l18 k18 : Nat) (c19 : Int) (c20 : Int) (c21 : Int) (c22 : Bool) (c23 : Bool) (c24 : Int) (c25 : Int) (c26 : ByteArray) (c27 : Bool) (c28 : Bool) (c29 : Bool) (c30 : Bool) (c31 : Int) (c32 : Int) (c33 : Int) (c34 : ByteArray) (p35 : Option Addr) (l35 k35 : Nat) (c36 : Bool) (c37 : ByteArray) (w : World) : Calls Tryz.prog 17 #[.pointer none, .agg #[.int .u8 c0, .string c1, .string c2, .int .u32 c3, .int .u16 c4, .int .u32 c5, .int .i64 c6, .int .u32 c7, .int .u32 c8, .int .u32 c9, .int .u32 c10, .string c11, .int .i64 c12, .bool c13, .int .u8 c14, .int .u8 c15, .string c16, .string c17, .slice p18 l18 k18, .int .u32 c19, .int .i64 c20, .int .u32 c21, .bool c22, .bool c23, .int .i64 c24, .int .u32 c25, .string c26, .bool c27, .bool c28, .bool c29, .bool c30, .int .u8 c31, .int .u64 c32, .int .u64 c33, .string c34, .slice p35 l35 k35, .bool c36, .string c37]] w fun e w' => e = .returned (.agg #[.int .u8 0, .string ⟨#[]⟩]) ∧ Below w.heap.size w w' := by
  go_enter Tryz.func17, Tryz.ntmps17
  go_wp2
  go_returns
  refine ⟨rfl, ?_⟩
  go_grown
end Go.Proofs.YtmkcndaidopkpaaGreatDoor
