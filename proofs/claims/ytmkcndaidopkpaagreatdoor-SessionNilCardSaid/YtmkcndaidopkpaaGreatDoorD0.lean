import Derived.Test.YtmkcndaidopkpaaGreatDoorAT
namespace Go.Proofs.YtmkcndaidopkpaaGreatDoor
open Go Go.ChangeShapes Go.WideShapes Go.ChangeAt Go.RowKit
set_option maxRecDepth 100000
set_option maxHeartbeats 4000000
theorem size85 : (Tryz.prog.info? 85).map (·.size) = some 4 := by kernel_rfl
theorem does_0 (c1 : Int) (c2 : Int) (c3 : ByteArray) (c4 : Bool) (c5 : Int) (c6 : Int) (c7 : Int) (c8 : ByteArray) (c9 : ByteArray) (c10 : Bool) (c11 : Bool) (c12 : Int) (c13 : Int) (c14 : Int) (c15 : ByteArray) (p16 : Option Addr) (l16 k16 : Nat) (c17 : Int) (c18 : ByteArray) (c19 : ByteArray) (c20 : Int) (c21 : Int) (c22 : Int) (c23 : Int) (c24 : Int) (c25 : Int) (c26 : Int) (c27 : Int) (c28 : ByteArray) (c29 : Int) (c30 : Bool) (c31 : Int) (c32 : Int) (c33 : ByteArray) (c34 : ByteArray) (p35 : Option Addr) (l35 k35 : Nat) (c36 : Int) (c37 : Int) (c38 : Int) (c39 : Bool) (c40 : Bool) (c41 : Int) (c42 : Int) (c43 : ByteArray) (c44 : Bool) (c45 : Bool) (c46 : Bool) (c47 : Bool) (c48 : Int) (c49 : Int) (c50 : Int) (c51 : ByteArray) (p52 : Option Addr) (l52 k52 : Nat) (c53 : Bool) (c54 : ByteArray) (w : World) (hmarks : MarksOk w p35 l35 k35) (hbytes : BytesOk w p52 l52 k52) :
  Calls Tryz.prog 25 #[.pointer none, .agg #[.int .i64 0, .int .i64 c1, .int .u32 c2, .string c3, .bool c4, .int .u8 c5, .int .u64 c6, .int .u64 c7, .string c8, .string c9, .bool c10, .bool c11, .int .u8 c12, .int .u64 c13, .int .u64 c14, .string c15, .slice p16 l16 k16, .int .u8 c17, .string c18, .string c19, .int .u32 c20, .int .u16 c21, .int .u32 c22, .int .i64 c23, .int .u32 c24, .int .u32 c25, .int .u32 c26, .int .u32 c27, .string c28, .int .i64 c29, .bool c30, .int .u8 c31, .int .u8 c32, .string c33, .string c34, .slice p35 l35 k35, .int .u32 c36, .int .i64 c37, .int .u32 c38, .bool c39, .bool c40, .int .i64 c41, .int .u32 c42, .string c43, .bool c44, .bool c45, .bool c46, .bool c47, .int .u8 c48, .int .u64 c49, .int .u64 c50, .string c51, .slice p52 l52 k52, .bool c53, .string c54]] w
   fun e w' => e = .returned (.agg #[.int .i64 0, .int .i64 2, .int .u8 0, .string ⟨#[]⟩]) ∧ Below w.heap.size w w' := by
  have HR0 : ∀ B C : Obj, (loadVar 39 ⟨w.heap.size, 17, none⟩).run Tryz.prog (((w.alloc (.cells #[.int .i64 0, .int .i64 c1, .int .u32 c2, .string c3, .bool c4, .int .u8 c5, .int .u64 c6, .int .u64 c7, .string c8, .string c9, .bool c10, .bool c11, .int .u8 c12, .int .u64 c13, .int .u64 c14, .string c15, .slice p16 l16 k16, .int .u8 c17, .string c18, .string c19, .int .u32 c20, .int .u16 c21, .int .u32 c22, .int .i64 c23, .int .u32 c24, .int .u32 c25, .int .u32 c26, .int .u32 c27, .string c28, .int .i64 c29, .bool c30, .int .u8 c31, .int .u8 c32, .string c33, .string c34, .slice p35 l35 k35, .int .u32 c36, .int .i64 c37, .int .u32 c38, .bool c39, .bool c40, .int .i64 c41, .int .u32 c42, .string c43, .bool c44, .bool c45, .bool c46, .bool c47, .int .u8 c48, .int .u64 c49, .int .u64 c50, .string c51, .slice p52 l52 k52, .bool c53, .string c54] 79)).alloc B).alloc C) = .ok (.agg #[.int .u8 c17, .string c18, .string c19, .int .u32 c20, .int .u16 c21, .int .u32 c22, .int .i64 c23, .int .u32 c24, .int .u32 c25, .int .u32 c26, .int .u32 c27, .string c28, .int .i64 c29, .bool c30, .int .u8 c31, .int .u8 c32, .string c33, .string c34, .slice p35 l35 k35, .int .u32 c36, .int .i64 c37, .int .u32 c38, .bool c39, .bool c40, .int .i64 c41, .int .u32 c42, .string c43, .bool c44, .bool c45, .bool c46, .bool c47, .int .u8 c48, .int .u64 c49, .int .u64 c50, .string c51, .slice p52 l52 k52, .bool c53, .string c54]) (((w.alloc (.cells #[.int .i64 0, .int .i64 c1, .int .u32 c2, .string c3, .bool c4, .int .u8 c5, .int .u64 c6, .int .u64 c7, .string c8, .string c9, .bool c10, .bool c11, .int .u8 c12, .int .u64 c13, .int .u64 c14, .string c15, .slice p16 l16 k16, .int .u8 c17, .string c18, .string c19, .int .u32 c20, .int .u16 c21, .int .u32 c22, .int .i64 c23, .int .u32 c24, .int .u32 c25, .int .u32 c26, .int .u32 c27, .string c28, .int .i64 c29, .bool c30, .int .u8 c31, .int .u8 c32, .string c33, .string c34, .slice p35 l35 k35, .int .u32 c36, .int .i64 c37, .int .u32 c38, .bool c39, .bool c40, .int .i64 c41, .int .u32 c42, .string c43, .bool c44, .bool c45, .bool c46, .bool c47, .int .u8 c48, .int .u64 c49, .int .u64 c50, .string c51, .slice p52 l52 k52, .bool c53, .string c54] 79)).alloc B).alloc C) := fun B C => run_part (cs := #[.int .i64 0, .int .i64 c1, .int .u32 c2, .string c3, .bool c4, .int .u8 c5, .int .u64 c6, .int .u64 c7, .string c8, .string c9, .bool c10, .bool c11, .int .u8 c12, .int .u64 c13, .int .u64 c14, .string c15, .slice p16 l16 k16, .int .u8 c17, .string c18, .string c19, .int .u32 c20, .int .u16 c21, .int .u32 c22, .int .i64 c23, .int .u32 c24, .int .u32 c25, .int .u32 c26, .int .u32 c27, .string c28, .int .i64 c29, .bool c30, .int .u8 c31, .int .u8 c32, .string c33, .string c34, .slice p35 l35 k35, .int .u32 c36, .int .i64 c37, .int .u32 c38, .bool c39, .bool c40, .int .i64 c41, .int .u32 c42, .string c43, .bool c44, .bool c45, .bool c46, .bool c47, .int .u8 c48, .int .u64 c49, .int .u64 c50, .string c51, .slice p52 l52 k52, .bool c53, .string c54]) (heap3 _ _ _ _) 17 #[.int .u8 c17, .string c18, .string c19, .int .u32 c20, .int .u16 c21, .int .u32 c22, .int .i64 c23, .int .u32 c24, .int .u32 c25, .int .u32 c26, .int .u32 c27, .string c28, .int .i64 c29, .bool c30, .int .u8 c31, .int .u8 c32, .string c33, .string c34, .slice p35 l35 k35, .int .u32 c36, .int .i64 c37, .int .u32 c38, .bool c39, .bool c40, .int .i64 c41, .int .u32 c42, .string c43, .bool c44, .bool c45, .bool c46, .bool c47, .int .u8 c48, .int .u64 c49, .int .u64 c50, .string c51, .slice p52 l52 k52, .bool c53, .string c54] (by kernel_rfl) Tryz.underlying39 rfl (by kernel_rfl)
  have HR := Lib.hid HR0; clear HR0
  go_enter Tryz.func25, Tryz.ntmps25
  go_upto_region 4 with (fail)
  iterate 7 go_step
  refine wpList_load_part rfl 39 (.tmp 14) rfl w.heap.size 17 rfl _ (HR.out _ _) ?_
  clear HR
  go_wp2_with fail
  refine Calls.mono (copy_any c17 c18 c19 c20 c21 c22 c23 c24 c25 c26 c27 c28 c29 c30 c31 c32 c33 c34 p35 l35 k35 c36 c37 c38 c39 c40 c41 c42 c43 c44 c45 c46 c47 c48 c49 c50 c51 p52 l52 k52 c53 c54 _ (hmarks.below (by go_grown)) (hbytes.below (by go_grown))) ?_
  rintro e w2 ⟨a18, b18, d18, a35, b35, d35, rfl, hb2⟩
  have HB2 := Lib.hid hb2
  clear hb2
  go_wp2_with fail
  refine Calls.mono (attach_nil c17 c18 c19 c20 c21 c22 c23 c24 c25 c26 c27 c28 c29 c30 c31 c32 c33 c34 a18 b18 d18 c36 c37 c38 c39 c40 c41 c42 c43 c44 c45 c46 c47 c48 c49 c50 c51 a35 b35 d35 c53 c54 _) ?_
  rintro e w3 ⟨rfl, hb3⟩
  have hb4 := HB2.out.trans (hb3.mono HB2.out.size)
  have hbel3 : Below w.heap.size w w3 := Below.trans (by go_grown) (hb4.mono (by simp; omega))
  have h2 := (hb4.block (w.heap.size + 1) (by simp)).trans (heap3b _ _ _ _)
  have h3 := (hb4.block (w.heap.size + 1 + 1) (by simp)).trans (heap3c _ _ _ _)
  have h3c0 : w3.cell? ⟨w.heap.size + 1 + 1, 0, none⟩ = some (.int .i64 0) := cell_of_row _ _ 0 _ _ _ h3
  have h3c1 : w3.cell? ⟨w.heap.size + 1 + 1, 1, none⟩ = some (.int .i64 0) := cell_of_row _ _ 1 _ _ _ h3
  have h3c2 : w3.cell? ⟨w.heap.size + 1 + 1, 2, none⟩ = some (.int .u8 0) := cell_of_row _ _ 2 _ _ _ h3
  have h3c3 : w3.cell? ⟨w.heap.size + 1 + 1, 3, none⟩ = some (.string ⟨#[]⟩) := cell_of_row _ _ 3 _ _ _ h3
  have hf3 : ∀ o, w3.frozen? ⟨w.heap.size + 1 + 1, o, none⟩ = false := fun o => frozen_of_row h3
  have H2 := Lib.hid h2; clear h2
  have H3 := Lib.hid h3; clear h3
  clear hb3 hb4 HB2
  go_upto_region 27 with (fail)
  have hB : ((w3.setCell ⟨w.heap.size + 1 + 1, 0, none⟩ (.int .i64 0)).setCell ⟨w.heap.size + 1 + 1, 1, none⟩ (.int .i64 2)).heap[w.heap.size + 1 + 1]? = some (.cells #[.int .i64 0, .int .i64 2, .int .u8 0, .string ⟨#[]⟩] 85 (0, 0)) := heap_set_same (o := 1) (heap_set_same (o := 0) H3.out (.int .i64 0)) (.int .i64 2)
  have hR := (Below.heap_setCell (w3.setCell ⟨w.heap.size + 1 + 1, 0, none⟩ (.int .i64 0)) ⟨w.heap.size + 1 + 1, 1, none⟩ (.int .i64 2) (w.heap.size + 1) (by simp)).trans ((Below.heap_setCell w3 ⟨w.heap.size + 1 + 1, 0, none⟩ (.int .i64 0) (w.heap.size + 1) (by simp)).trans H2.out)
  have hbel4 : Below w.heap.size w ((w3.setCell ⟨w.heap.size + 1 + 1, 0, none⟩ (.int .i64 0)).setCell ⟨w.heap.size + 1 + 1, 1, none⟩ (.int .i64 2)) := (hbel3.setCell (by simp; omega) _).setCell (by simp; omega) _
  generalize ((w3.setCell ⟨w.heap.size + 1 + 1, 0, none⟩ (.int .i64 0)).setCell ⟨w.heap.size + 1 + 1, 1, none⟩ (.int .i64 2)) = w4 at hB hR hbel4 ⊢
  clear h3c0 h3c1 h3c2 h3c3 hf3 hbel3
  go_step
  go_step
  refine wp_load_row 85 (.tmp 5) rfl (w.heap.size + 1 + 1) rfl 85 _ _ _ hB Tryz.underlying85 rfl size85 ?_
  go_step
  go_step
  refine wp_store_row 85 (.tmp 4) (.tmp 117) rfl (w.heap.size + 1) #[.int .i64 0, .int .i64 2, .int .u8 0, .string ⟨#[]⟩] rfl rfl 85 _ hR size85 rfl (by simp [Value.oneCell']) ?_
  have hR5 := setRow_heap w4 (w.heap.size + 1) _ #[.int .i64 0, .int .i64 2, .int .u8 0, .string ⟨#[]⟩] 85 (0, 0) hR
  have hbel5 : Below w.heap.size w (w4.setRow (w.heap.size + 1) #[.int .i64 0, .int .i64 2, .int .u8 0, .string ⟨#[]⟩]) := below_setRow hbel4 (by omega) _
  generalize (w4.setRow (w.heap.size + 1) #[.int .i64 0, .int .i64 2, .int .u8 0, .string ⟨#[]⟩]) = w5 at hR5 hbel5 ⊢
  clear hB hR hbel4
  go_wp2
  exact bodyPost_ret (results_cell_row Tryz.results25 _ _ (w.heap.size + 1) 85 _ (0, 0) _ rfl hR5 Tryz.underlying85 rfl size85) rfl ⟨rfl, hbel5⟩
theorem does_8 (c1 : Int) (c2 : Int) (c3 : ByteArray) (c4 : Bool) (c5 : Int) (c6 : Int) (c7 : Int) (c8 : ByteArray) (c9 : ByteArray) (c10 : Bool) (c11 : Bool) (c12 : Int) (c13 : Int) (c14 : Int) (c15 : ByteArray) (p16 : Option Addr) (l16 k16 : Nat) (c17 : Int) (c18 : ByteArray) (c19 : ByteArray) (c20 : Int) (c21 : Int) (c22 : Int) (c23 : Int) (c24 : Int) (c25 : Int) (c26 : Int) (c27 : Int) (c28 : ByteArray) (c29 : Int) (c30 : Bool) (c31 : Int) (c32 : Int) (c33 : ByteArray) (c34 : ByteArray) (p35 : Option Addr) (l35 k35 : Nat) (c36 : Int) (c37 : Int) (c38 : Int) (c39 : Bool) (c40 : Bool) (c41 : Int) (c42 : Int) (c43 : ByteArray) (c44 : Bool) (c45 : Bool) (c46 : Bool) (c47 : Bool) (c48 : Int) (c49 : Int) (c50 : Int) (c51 : ByteArray) (p52 : Option Addr) (l52 k52 : Nat) (c53 : Bool) (c54 : ByteArray) (w : World) (hmarks : MarksOk w p35 l35 k35) (hbytes : BytesOk w p52 l52 k52) :
  Calls Tryz.prog 25 #[.pointer none, .agg #[.int .i64 8, .int .i64 c1, .int .u32 c2, .string c3, .bool c4, .int .u8 c5, .int .u64 c6, .int .u64 c7, .string c8, .string c9, .bool c10, .bool c11, .int .u8 c12, .int .u64 c13, .int .u64 c14, .string c15, .slice p16 l16 k16, .int .u8 c17, .string c18, .string c19, .int .u32 c20, .int .u16 c21, .int .u32 c22, .int .i64 c23, .int .u32 c24, .int .u32 c25, .int .u32 c26, .int .u32 c27, .string c28, .int .i64 c29, .bool c30, .int .u8 c31, .int .u8 c32, .string c33, .string c34, .slice p35 l35 k35, .int .u32 c36, .int .i64 c37, .int .u32 c38, .bool c39, .bool c40, .int .i64 c41, .int .u32 c42, .string c43, .bool c44, .bool c45, .bool c46, .bool c47, .int .u8 c48, .int .u64 c49, .int .u64 c50, .string c51, .slice p52 l52 k52, .bool c53, .string c54]] w
   fun e w' => e = .returned (.agg #[.int .i64 0, .int .i64 0, .int .u8 0, .string ⟨#[]⟩]) ∧ Below w.heap.size w w' := by
  have HR0 : ∀ B C : Obj, (loadVar 39 ⟨w.heap.size, 17, none⟩).run Tryz.prog (((w.alloc (.cells #[.int .i64 8, .int .i64 c1, .int .u32 c2, .string c3, .bool c4, .int .u8 c5, .int .u64 c6, .int .u64 c7, .string c8, .string c9, .bool c10, .bool c11, .int .u8 c12, .int .u64 c13, .int .u64 c14, .string c15, .slice p16 l16 k16, .int .u8 c17, .string c18, .string c19, .int .u32 c20, .int .u16 c21, .int .u32 c22, .int .i64 c23, .int .u32 c24, .int .u32 c25, .int .u32 c26, .int .u32 c27, .string c28, .int .i64 c29, .bool c30, .int .u8 c31, .int .u8 c32, .string c33, .string c34, .slice p35 l35 k35, .int .u32 c36, .int .i64 c37, .int .u32 c38, .bool c39, .bool c40, .int .i64 c41, .int .u32 c42, .string c43, .bool c44, .bool c45, .bool c46, .bool c47, .int .u8 c48, .int .u64 c49, .int .u64 c50, .string c51, .slice p52 l52 k52, .bool c53, .string c54] 79)).alloc B).alloc C) = .ok (.agg #[.int .u8 c17, .string c18, .string c19, .int .u32 c20, .int .u16 c21, .int .u32 c22, .int .i64 c23, .int .u32 c24, .int .u32 c25, .int .u32 c26, .int .u32 c27, .string c28, .int .i64 c29, .bool c30, .int .u8 c31, .int .u8 c32, .string c33, .string c34, .slice p35 l35 k35, .int .u32 c36, .int .i64 c37, .int .u32 c38, .bool c39, .bool c40, .int .i64 c41, .int .u32 c42, .string c43, .bool c44, .bool c45, .bool c46, .bool c47, .int .u8 c48, .int .u64 c49, .int .u64 c50, .string c51, .slice p52 l52 k52, .bool c53, .string c54]) (((w.alloc (.cells #[.int .i64 8, .int .i64 c1, .int .u32 c2, .string c3, .bool c4, .int .u8 c5, .int .u64 c6, .int .u64 c7, .string c8, .string c9, .bool c10, .bool c11, .int .u8 c12, .int .u64 c13, .int .u64 c14, .string c15, .slice p16 l16 k16, .int .u8 c17, .string c18, .string c19, .int .u32 c20, .int .u16 c21, .int .u32 c22, .int .i64 c23, .int .u32 c24, .int .u32 c25, .int .u32 c26, .int .u32 c27, .string c28, .int .i64 c29, .bool c30, .int .u8 c31, .int .u8 c32, .string c33, .string c34, .slice p35 l35 k35, .int .u32 c36, .int .i64 c37, .int .u32 c38, .bool c39, .bool c40, .int .i64 c41, .int .u32 c42, .string c43, .bool c44, .bool c45, .bool c46, .bool c47, .int .u8 c48, .int .u64 c49, .int .u64 c50, .string c51, .slice p52 l52 k52, .bool c53, .string c54] 79)).alloc B).alloc C) := fun B C => run_part (cs := #[.int .i64 8, .int .i64 c1, .int .u32 c2, .string c3, .bool c4, .int .u8 c5, .int .u64 c6, .int .u64 c7, .string c8, .string c9, .bool c10, .bool c11, .int .u8 c12, .int .u64 c13, .int .u64 c14, .string c15, .slice p16 l16 k16, .int .u8 c17, .string c18, .string c19, .int .u32 c20, .int .u16 c21, .int .u32 c22, .int .i64 c23, .int .u32 c24, .int .u32 c25, .int .u32 c26, .int .u32 c27, .string c28, .int .i64 c29, .bool c30, .int .u8 c31, .int .u8 c32, .string c33, .string c34, .slice p35 l35 k35, .int .u32 c36, .int .i64 c37, .int .u32 c38, .bool c39, .bool c40, .int .i64 c41, .int .u32 c42, .string c43, .bool c44, .bool c45, .bool c46, .bool c47, .int .u8 c48, .int .u64 c49, .int .u64 c50, .string c51, .slice p52 l52 k52, .bool c53, .string c54]) (heap3 _ _ _ _) 17 #[.int .u8 c17, .string c18, .string c19, .int .u32 c20, .int .u16 c21, .int .u32 c22, .int .i64 c23, .int .u32 c24, .int .u32 c25, .int .u32 c26, .int .u32 c27, .string c28, .int .i64 c29, .bool c30, .int .u8 c31, .int .u8 c32, .string c33, .string c34, .slice p35 l35 k35, .int .u32 c36, .int .i64 c37, .int .u32 c38, .bool c39, .bool c40, .int .i64 c41, .int .u32 c42, .string c43, .bool c44, .bool c45, .bool c46, .bool c47, .int .u8 c48, .int .u64 c49, .int .u64 c50, .string c51, .slice p52 l52 k52, .bool c53, .string c54] (by kernel_rfl) Tryz.underlying39 rfl (by kernel_rfl)
  have HR := Lib.hid HR0; clear HR0
  go_enter Tryz.func25, Tryz.ntmps25
  go_upto_region 26 with (fail)
  iterate 7 go_step
  refine wpList_load_part rfl 39 (.tmp 112) rfl w.heap.size 17 rfl _ (HR.out _ _) ?_
  clear HR
  go_wp2_with fail
  refine Calls.mono (copy_any c17 c18 c19 c20 c21 c22 c23 c24 c25 c26 c27 c28 c29 c30 c31 c32 c33 c34 p35 l35 k35 c36 c37 c38 c39 c40 c41 c42 c43 c44 c45 c46 c47 c48 c49 c50 c51 p52 l52 k52 c53 c54 _ (hmarks.below (by go_grown)) (hbytes.below (by go_grown))) ?_
  rintro e w2 ⟨a18, b18, d18, a35, b35, d35, rfl, hb2⟩
  have HB2 := Lib.hid hb2
  clear hb2
  go_wp2_with fail
  refine Calls.mono (in_nil c17 c18 c19 c20 c21 c22 c23 c24 c25 c26 c27 c28 c29 c30 c31 c32 c33 c34 a18 b18 d18 c36 c37 c38 c39 c40 c41 c42 c43 c44 c45 c46 c47 c48 c49 c50 c51 a35 b35 d35 c53 c54 _) ?_
  rintro e w3 ⟨rfl, hb3⟩
  have hb4 := HB2.out.trans (hb3.mono HB2.out.size)
  have hbel3 : Below w.heap.size w w3 := Below.trans (by go_grown) (hb4.mono (by simp; omega))
  have h2 := (hb4.block (w.heap.size + 1) (by simp)).trans (heap3b _ _ _ _)
  have h3 := (hb4.block (w.heap.size + 1 + 1) (by simp)).trans (heap3c _ _ _ _)
  have h3c0 : w3.cell? ⟨w.heap.size + 1 + 1, 0, none⟩ = some (.int .i64 0) := cell_of_row _ _ 0 _ _ _ h3
  have h3c1 : w3.cell? ⟨w.heap.size + 1 + 1, 1, none⟩ = some (.int .i64 0) := cell_of_row _ _ 1 _ _ _ h3
  have h3c2 : w3.cell? ⟨w.heap.size + 1 + 1, 2, none⟩ = some (.int .u8 0) := cell_of_row _ _ 2 _ _ _ h3
  have h3c3 : w3.cell? ⟨w.heap.size + 1 + 1, 3, none⟩ = some (.string ⟨#[]⟩) := cell_of_row _ _ 3 _ _ _ h3
  have hf3 : ∀ o, w3.frozen? ⟨w.heap.size + 1 + 1, o, none⟩ = false := fun o => frozen_of_row h3
  have H2 := Lib.hid h2; clear h2
  have H3 := Lib.hid h3; clear h3
  clear hb3 hb4 HB2
  go_upto_region 27 with (fail)
  have hB : ((w3.setCell ⟨w.heap.size + 1 + 1, 2, none⟩ (.int .u8 0)).setCell ⟨w.heap.size + 1 + 1, 3, none⟩ (.string ⟨#[]⟩)).heap[w.heap.size + 1 + 1]? = some (.cells #[.int .i64 0, .int .i64 0, .int .u8 0, .string ⟨#[]⟩] 85 (0, 0)) := heap_set_same (o := 3) (heap_set_same (o := 2) H3.out (.int .u8 0)) (.string ⟨#[]⟩)
  have hR := (Below.heap_setCell (w3.setCell ⟨w.heap.size + 1 + 1, 2, none⟩ (.int .u8 0)) ⟨w.heap.size + 1 + 1, 3, none⟩ (.string ⟨#[]⟩) (w.heap.size + 1) (by simp)).trans ((Below.heap_setCell w3 ⟨w.heap.size + 1 + 1, 2, none⟩ (.int .u8 0) (w.heap.size + 1) (by simp)).trans H2.out)
  have hbel4 : Below w.heap.size w ((w3.setCell ⟨w.heap.size + 1 + 1, 2, none⟩ (.int .u8 0)).setCell ⟨w.heap.size + 1 + 1, 3, none⟩ (.string ⟨#[]⟩)) := (hbel3.setCell (by simp; omega) _).setCell (by simp; omega) _
  generalize ((w3.setCell ⟨w.heap.size + 1 + 1, 2, none⟩ (.int .u8 0)).setCell ⟨w.heap.size + 1 + 1, 3, none⟩ (.string ⟨#[]⟩)) = w4 at hB hR hbel4 ⊢
  clear h3c0 h3c1 h3c2 h3c3 hf3 hbel3
  go_step
  go_step
  refine wp_load_row 85 (.tmp 5) rfl (w.heap.size + 1 + 1) rfl 85 _ _ _ hB Tryz.underlying85 rfl size85 ?_
  go_step
  go_step
  refine wp_store_row 85 (.tmp 4) (.tmp 117) rfl (w.heap.size + 1) #[.int .i64 0, .int .i64 0, .int .u8 0, .string ⟨#[]⟩] rfl rfl 85 _ hR size85 rfl (by simp [Value.oneCell']) ?_
  have hR5 := setRow_heap w4 (w.heap.size + 1) _ #[.int .i64 0, .int .i64 0, .int .u8 0, .string ⟨#[]⟩] 85 (0, 0) hR
  have hbel5 : Below w.heap.size w (w4.setRow (w.heap.size + 1) #[.int .i64 0, .int .i64 0, .int .u8 0, .string ⟨#[]⟩]) := below_setRow hbel4 (by omega) _
  generalize (w4.setRow (w.heap.size + 1) #[.int .i64 0, .int .i64 0, .int .u8 0, .string ⟨#[]⟩]) = w5 at hR5 hbel5 ⊢
  clear hB hR hbel4
  go_wp2
  exact bodyPost_ret (results_cell_row Tryz.results25 _ _ (w.heap.size + 1) 85 _ (0, 0) _ rfl hR5 Tryz.underlying85 rfl size85) rfl ⟨rfl, hbel5⟩
end Go.Proofs.YtmkcndaidopkpaaGreatDoor
