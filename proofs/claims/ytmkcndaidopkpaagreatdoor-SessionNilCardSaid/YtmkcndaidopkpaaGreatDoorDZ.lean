import Derived.Test.YtmkcndaidopkpaaGreatDoorDS
import Derived.Test.YtmkcndaidopkpaaGreatDoorD0
import Derived.Test.YtmkcndaidopkpaaGreatDoorDA
namespace Go.Proofs.YtmkcndaidopkpaaGreatDoor
open Go Go.ChangeShapes Go.WideShapes Go.ChangeAt Go.RowKit
set_option maxRecDepth 100000
def told (c : Int) : Int := if 0 ≤ c ∧ c ≤ 7 then 2 else 0
theorem does_all (c0 : Int) (c1 : Int) (c2 : Int) (c3 : ByteArray) (c4 : Bool) (c5 : Int) (c6 : Int) (c7 : Int) (c8 : ByteArray) (c9 : ByteArray) (c10 : Bool) (c11 : Bool) (c12 : Int) (c13 : Int) (c14 : Int) (c15 : ByteArray) (p16 : Option Addr) (l16 k16 : Nat) (c17 : Int) (c18 : ByteArray) (c19 : ByteArray) (c20 : Int) (c21 : Int) (c22 : Int) (c23 : Int) (c24 : Int) (c25 : Int) (c26 : Int) (c27 : Int) (c28 : ByteArray) (c29 : Int) (c30 : Bool) (c31 : Int) (c32 : Int) (c33 : ByteArray) (c34 : ByteArray) (p35 : Option Addr) (l35 k35 : Nat) (c36 : Int) (c37 : Int) (c38 : Int) (c39 : Bool) (c40 : Bool) (c41 : Int) (c42 : Int) (c43 : ByteArray) (c44 : Bool) (c45 : Bool) (c46 : Bool) (c47 : Bool) (c48 : Int) (c49 : Int) (c50 : Int) (c51 : ByteArray) (p52 : Option Addr) (l52 k52 : Nat) (c53 : Bool) (c54 : ByteArray) (w : World) (hm : MarksOk w p35 l35 k35) (hb : BytesOk w p52 l52 k52) (ho : BytesOk w p16 l16 k16) :
  Calls Tryz.prog 25 #[.pointer none, .agg #[.int .i64 c0, .int .i64 c1, .int .u32 c2, .string c3, .bool c4, .int .u8 c5, .int .u64 c6, .int .u64 c7, .string c8, .string c9, .bool c10, .bool c11, .int .u8 c12, .int .u64 c13, .int .u64 c14, .string c15, .slice p16 l16 k16, .int .u8 c17, .string c18, .string c19, .int .u32 c20, .int .u16 c21, .int .u32 c22, .int .i64 c23, .int .u32 c24, .int .u32 c25, .int .u32 c26, .int .u32 c27, .string c28, .int .i64 c29, .bool c30, .int .u8 c31, .int .u8 c32, .string c33, .string c34, .slice p35 l35 k35, .int .u32 c36, .int .i64 c37, .int .u32 c38, .bool c39, .bool c40, .int .i64 c41, .int .u32 c42, .string c43, .bool c44, .bool c45, .bool c46, .bool c47, .int .u8 c48, .int .u64 c49, .int .u64 c50, .string c51, .slice p52 l52 k52, .bool c53, .string c54]] w fun e w' => e = .returned (.agg #[.int .i64 0, .int .i64 (told c0), .int .u8 0, .string ⟨#[]⟩]) ∧ Below w.heap.size w w' := by
  by_cases h0 : c0 = 0
  · subst h0; exact does_0 c1 c2 c3 c4 c5 c6 c7 c8 c9 c10 c11 c12 c13 c14 c15 p16 l16 k16 c17 c18 c19 c20 c21 c22 c23 c24 c25 c26 c27 c28 c29 c30 c31 c32 c33 c34 p35 l35 k35 c36 c37 c38 c39 c40 c41 c42 c43 c44 c45 c46 c47 c48 c49 c50 c51 p52 l52 k52 c53 c54 w hm hb
  by_cases h1 : c0 = 1
  · subst h1; exact does_1 c1 c2 c3 c4 c5 c6 c7 c8 c9 c10 c11 c12 c13 c14 c15 p16 l16 k16 c17 c18 c19 c20 c21 c22 c23 c24 c25 c26 c27 c28 c29 c30 c31 c32 c33 c34 p35 l35 k35 c36 c37 c38 c39 c40 c41 c42 c43 c44 c45 c46 c47 c48 c49 c50 c51 p52 l52 k52 c53 c54 w ho
  by_cases h2 : c0 = 2
  · subst h2; exact does_2 c1 c2 c3 c4 c5 c6 c7 c8 c9 c10 c11 c12 c13 c14 c15 p16 l16 k16 c17 c18 c19 c20 c21 c22 c23 c24 c25 c26 c27 c28 c29 c30 c31 c32 c33 c34 p35 l35 k35 c36 c37 c38 c39 c40 c41 c42 c43 c44 c45 c46 c47 c48 c49 c50 c51 p52 l52 k52 c53 c54 w
  by_cases h3 : c0 = 3
  · subst h3; exact does_3 c1 c2 c3 c4 c5 c6 c7 c8 c9 c10 c11 c12 c13 c14 c15 p16 l16 k16 c17 c18 c19 c20 c21 c22 c23 c24 c25 c26 c27 c28 c29 c30 c31 c32 c33 c34 p35 l35 k35 c36 c37 c38 c39 c40 c41 c42 c43 c44 c45 c46 c47 c48 c49 c50 c51 p52 l52 k52 c53 c54 w
  by_cases h4 : c0 = 4
  · subst h4; exact does_4 c1 c2 c3 c4 c5 c6 c7 c8 c9 c10 c11 c12 c13 c14 c15 p16 l16 k16 c17 c18 c19 c20 c21 c22 c23 c24 c25 c26 c27 c28 c29 c30 c31 c32 c33 c34 p35 l35 k35 c36 c37 c38 c39 c40 c41 c42 c43 c44 c45 c46 c47 c48 c49 c50 c51 p52 l52 k52 c53 c54 w
  by_cases h5 : c0 = 5
  · subst h5; exact does_5 c1 c2 c3 c4 c5 c6 c7 c8 c9 c10 c11 c12 c13 c14 c15 p16 l16 k16 c17 c18 c19 c20 c21 c22 c23 c24 c25 c26 c27 c28 c29 c30 c31 c32 c33 c34 p35 l35 k35 c36 c37 c38 c39 c40 c41 c42 c43 c44 c45 c46 c47 c48 c49 c50 c51 p52 l52 k52 c53 c54 w
  by_cases h6 : c0 = 6
  · subst h6; exact does_6 c1 c2 c3 c4 c5 c6 c7 c8 c9 c10 c11 c12 c13 c14 c15 p16 l16 k16 c17 c18 c19 c20 c21 c22 c23 c24 c25 c26 c27 c28 c29 c30 c31 c32 c33 c34 p35 l35 k35 c36 c37 c38 c39 c40 c41 c42 c43 c44 c45 c46 c47 c48 c49 c50 c51 p52 l52 k52 c53 c54 w
  by_cases h7 : c0 = 7
  · subst h7; exact does_7 c1 c2 c3 c4 c5 c6 c7 c8 c9 c10 c11 c12 c13 c14 c15 p16 l16 k16 c17 c18 c19 c20 c21 c22 c23 c24 c25 c26 c27 c28 c29 c30 c31 c32 c33 c34 p35 l35 k35 c36 c37 c38 c39 c40 c41 c42 c43 c44 c45 c46 c47 c48 c49 c50 c51 p52 l52 k52 c53 c54 w
  by_cases h8 : c0 = 8
  · subst h8; exact does_8 c1 c2 c3 c4 c5 c6 c7 c8 c9 c10 c11 c12 c13 c14 c15 p16 l16 k16 c17 c18 c19 c20 c21 c22 c23 c24 c25 c26 c27 c28 c29 c30 c31 c32 c33 c34 p35 l35 k35 c36 c37 c38 c39 c40 c41 c42 c43 c44 c45 c46 c47 c48 c49 c50 c51 p52 l52 k52 c53 c54 w hm hb
  have ht : told c0 = 0 := by unfold told; rw [if_neg (by omega)]
  rw [ht]
  exact does_other c0 c1 c2 c3 c4 c5 c6 c7 c8 c9 c10 c11 c12 c13 c14 c15 p16 l16 k16 c17 c18 c19 c20 c21 c22 c23 c24 c25 c26 c27 c28 c29 c30 c31 c32 c33 c34 p35 l35 k35 c36 c37 c38 c39 c40 c41 c42 c43 c44 c45 c46 c47 c48 c49 c50 c51 p52 l52 k52 c53 c54 w (by simpa using h0) (by simpa using h1) (by simpa using h2) (by simpa using h3) (by simpa using h4) (by simpa using h5) (by simpa using h6) (by simpa using h7) (by simpa using h8)
end Go.Proofs.YtmkcndaidopkpaaGreatDoor
