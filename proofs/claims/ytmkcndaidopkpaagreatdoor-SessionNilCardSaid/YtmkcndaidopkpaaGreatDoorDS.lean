import Derived.Test.YtmkcndaidopkpaaGreatDoorCO
namespace Go.Proofs.YtmkcndaidopkpaaGreatDoor
open Go Go.ChangeShapes Go.WideShapes Go.ChangeAt Go.RowKit
set_option maxRecDepth 100000
set_option maxHeartbeats 4000000
theorem send_nil (h : Int) (c0 : ByteArray) (c1 : Bool) (c2 : Bool) (c3 : Int) (c4 : Int) (c5 : Int) (c6 : ByteArray) (p7 : Option Addr) (l7 k7 : Nat) (w : World) : Calls Tryz.prog 43 #[.pointer none, .int .i64 h, .agg #[.string c0, .bool c1, .bool c2, .int .u8 c3, .int .u64 c4, .int .u64 c5, .string c6, .slice p7 l7 k7]] w fun e w' => e = .returned (.int .i64 2) ∧ Below w.heap.size w w' := by
  go_enter Tryz.func43, Tryz.ntmps43
  go_wp2
  go_returns
  refine ⟨rfl, ?_⟩
  go_grown

theorem heap4 (w : World) (A B C D : Obj) : ((((w.alloc A).alloc B).alloc C).alloc D).heap[w.heap.size]? = some A := by rw [Below.heap_alloc _ _ _ (by simp; omega)]; exact heap3 w A B C
theorem heap4b (w : World) (A B C D : Obj) : ((((w.alloc A).alloc B).alloc C).alloc D).heap[w.heap.size + 1]? = some B := by rw [Below.heap_alloc _ _ _ (by simp)]; exact heap3b w A B C
theorem heap4c (w : World) (A B C D : Obj) : ((((w.alloc A).alloc B).alloc C).alloc D).heap[w.heap.size + 1 + 1]? = some C := by rw [Below.heap_alloc _ _ _ (by simp)]; exact heap3c w A B C
theorem heap4d (w : World) (A B C D : Obj) : ((((w.alloc A).alloc B).alloc C).alloc D).heap[w.heap.size + 1 + 1 + 1]? = some D := by
  have h := heap1 (((w.alloc A).alloc B).alloc C) D
  simpa using h
theorem heap5e (w : World) (A B C D E : Obj) : (((((w.alloc A).alloc B).alloc C).alloc D).alloc E).heap[w.heap.size + 1 + 1 + 1 + 1]? = some E := by
  have h := heap1 ((((w.alloc A).alloc B).alloc C).alloc D) E
  simpa using h
theorem news_at {zs : List Int} {l b off : Nat} {w : World} (H : ∀ j, j < zs.length → w.cell? ⟨b, off + j, none⟩ = some (.int .u8 (zs.getD j 0))) {j : Nat} {u : Value} (hj : (List.take l (List.map (Value.int .u8) zs))[j]? = some u) : w.cell? ⟨b, off + j, none⟩ = some u := by
  rw [List.getElem?_take] at hj
  split at hj
  · rw [List.getElem?_map] at hj
    cases hz : zs[j]? with
    | none => rw [hz] at hj; cases hj
    | some x =>
      rw [hz] at hj
      cases hj
      have hl := (List.getElem?_eq_some_iff.1 hz).1
      rw [H j hl]
      simp [List.getD, hz]
  · cases hj
theorem size77 : (Tryz.prog.info? 77).map (·.size) = some 8 := by kernel_rfl
theorem size85 : (Tryz.prog.info? 85).map (·.size) = some 4 := by kernel_rfl
theorem does_1 (c1 : Int) (c2 : Int) (c3 : ByteArray) (c4 : Bool) (c5 : Int) (c6 : Int) (c7 : Int) (c8 : ByteArray) (c9 : ByteArray) (c10 : Bool) (c11 : Bool) (c12 : Int) (c13 : Int) (c14 : Int) (c15 : ByteArray) (p16 : Option Addr) (l16 k16 : Nat) (c17 : Int) (c18 : ByteArray) (c19 : ByteArray) (c20 : Int) (c21 : Int) (c22 : Int) (c23 : Int) (c24 : Int) (c25 : Int) (c26 : Int) (c27 : Int) (c28 : ByteArray) (c29 : Int) (c30 : Bool) (c31 : Int) (c32 : Int) (c33 : ByteArray) (c34 : ByteArray) (p35 : Option Addr) (l35 k35 : Nat) (c36 : Int) (c37 : Int) (c38 : Int) (c39 : Bool) (c40 : Bool) (c41 : Int) (c42 : Int) (c43 : ByteArray) (c44 : Bool) (c45 : Bool) (c46 : Bool) (c47 : Bool) (c48 : Int) (c49 : Int) (c50 : Int) (c51 : ByteArray) (p52 : Option Addr) (l52 k52 : Nat) (c53 : Bool) (c54 : ByteArray) (w : World) (hbytes : BytesOk w p16 l16 k16) :
  Calls Tryz.prog 25 #[.pointer none, .agg #[.int .i64 1, .int .i64 c1, .int .u32 c2, .string c3, .bool c4, .int .u8 c5, .int .u64 c6, .int .u64 c7, .string c8, .string c9, .bool c10, .bool c11, .int .u8 c12, .int .u64 c13, .int .u64 c14, .string c15, .slice p16 l16 k16, .int .u8 c17, .string c18, .string c19, .int .u32 c20, .int .u16 c21, .int .u32 c22, .int .i64 c23, .int .u32 c24, .int .u32 c25, .int .u32 c26, .int .u32 c27, .string c28, .int .i64 c29, .bool c30, .int .u8 c31, .int .u8 c32, .string c33, .string c34, .slice p35 l35 k35, .int .u32 c36, .int .i64 c37, .int .u32 c38, .bool c39, .bool c40, .int .i64 c41, .int .u32 c42, .string c43, .bool c44, .bool c45, .bool c46, .bool c47, .int .u8 c48, .int .u64 c49, .int .u64 c50, .string c51, .slice p52 l52 k52, .bool c53, .string c54]] w
   fun e w' => e = .returned (.agg #[.int .i64 0, .int .i64 2, .int .u8 0, .string ⟨#[]⟩]) ∧ Below w.heap.size w w' := by
  obtain ⟨i0, hi, hz0, hz1, hz2⟩ := info_parts info5
  rcases hbytes with ⟨rfl, rfl, rfl⟩ | ⟨b2, off2, zs, rfl, hlt0, hreach, hlen, hzs⟩
  · go_enter Tryz.func25, Tryz.ntmps25
    go_upto_region 8 with (fail)
    have hb2 : Below w.heap.size w (((((w.alloc (.cells #[.int .i64 1, .int .i64 c1, .int .u32 c2, .string c3, .bool c4, .int .u8 c5, .int .u64 c6, .int .u64 c7, .string c8, .string c9, .bool c10, .bool c11, .int .u8 c12, .int .u64 c13, .int .u64 c14, .string c15, .slice none 0 0, .int .u8 c17, .string c18, .string c19, .int .u32 c20, .int .u16 c21, .int .u32 c22, .int .i64 c23, .int .u32 c24, .int .u32 c25, .int .u32 c26, .int .u32 c27, .string c28, .int .i64 c29, .bool c30, .int .u8 c31, .int .u8 c32, .string c33, .string c34, .slice p35 l35 k35, .int .u32 c36, .int .i64 c37, .int .u32 c38, .bool c39, .bool c40, .int .i64 c41, .int .u32 c42, .string c43, .bool c44, .bool c45, .bool c46, .bool c47, .int .u8 c48, .int .u64 c49, .int .u64 c50, .string c51, .slice p52 l52 k52, .bool c53, .string c54] 79)).alloc (.cells #[.int .i64 0, .int .i64 0, .int .u8 0, .string ⟨#[]⟩] 85)).alloc (.cells #[.int .i64 0, .int .i64 0, .int .u8 0, .string ⟨#[]⟩] 85)).alloc (.cells #[.string c9, .bool c10, .bool c11, .int .u8 c12, .int .u64 c13, .int .u64 c14, .string c15, .slice (some ⟨w.heap.size + 1 + 1 + 1 + 1, 0, none⟩) 0 0] 77)).alloc (.cells #[] 5)) := by go_grown
    have hA2 : ((((((w.alloc (.cells #[.int .i64 1, .int .i64 c1, .int .u32 c2, .string c3, .bool c4, .int .u8 c5, .int .u64 c6, .int .u64 c7, .string c8, .string c9, .bool c10, .bool c11, .int .u8 c12, .int .u64 c13, .int .u64 c14, .string c15, .slice none 0 0, .int .u8 c17, .string c18, .string c19, .int .u32 c20, .int .u16 c21, .int .u32 c22, .int .i64 c23, .int .u32 c24, .int .u32 c25, .int .u32 c26, .int .u32 c27, .string c28, .int .i64 c29, .bool c30, .int .u8 c31, .int .u8 c32, .string c33, .string c34, .slice p35 l35 k35, .int .u32 c36, .int .i64 c37, .int .u32 c38, .bool c39, .bool c40, .int .i64 c41, .int .u32 c42, .string c43, .bool c44, .bool c45, .bool c46, .bool c47, .int .u8 c48, .int .u64 c49, .int .u64 c50, .string c51, .slice p52 l52 k52, .bool c53, .string c54] 79)).alloc (.cells #[.int .i64 0, .int .i64 0, .int .u8 0, .string ⟨#[]⟩] 85)).alloc (.cells #[.int .i64 0, .int .i64 0, .int .u8 0, .string ⟨#[]⟩] 85)).alloc (.cells #[.string c9, .bool c10, .bool c11, .int .u8 c12, .int .u64 c13, .int .u64 c14, .string c15, .slice (some ⟨w.heap.size + 1 + 1 + 1 + 1, 0, none⟩) 0 0] 77)).alloc (.cells #[] 5))).heap[w.heap.size]? = _ := (Below.heap_alloc _ _ _ (by simp; omega)).trans (heap4 _ _ _ _ _)
    have hR2 : ((((((w.alloc (.cells #[.int .i64 1, .int .i64 c1, .int .u32 c2, .string c3, .bool c4, .int .u8 c5, .int .u64 c6, .int .u64 c7, .string c8, .string c9, .bool c10, .bool c11, .int .u8 c12, .int .u64 c13, .int .u64 c14, .string c15, .slice none 0 0, .int .u8 c17, .string c18, .string c19, .int .u32 c20, .int .u16 c21, .int .u32 c22, .int .i64 c23, .int .u32 c24, .int .u32 c25, .int .u32 c26, .int .u32 c27, .string c28, .int .i64 c29, .bool c30, .int .u8 c31, .int .u8 c32, .string c33, .string c34, .slice p35 l35 k35, .int .u32 c36, .int .i64 c37, .int .u32 c38, .bool c39, .bool c40, .int .i64 c41, .int .u32 c42, .string c43, .bool c44, .bool c45, .bool c46, .bool c47, .int .u8 c48, .int .u64 c49, .int .u64 c50, .string c51, .slice p52 l52 k52, .bool c53, .string c54] 79)).alloc (.cells #[.int .i64 0, .int .i64 0, .int .u8 0, .string ⟨#[]⟩] 85)).alloc (.cells #[.int .i64 0, .int .i64 0, .int .u8 0, .string ⟨#[]⟩] 85)).alloc (.cells #[.string c9, .bool c10, .bool c11, .int .u8 c12, .int .u64 c13, .int .u64 c14, .string c15, .slice (some ⟨w.heap.size + 1 + 1 + 1 + 1, 0, none⟩) 0 0] 77)).alloc (.cells #[] 5))).heap[w.heap.size + 1]? = _ := (Below.heap_alloc _ _ _ (by simp)).trans (heap4b _ _ _ _ _)
    have hT2 : ((((((w.alloc (.cells #[.int .i64 1, .int .i64 c1, .int .u32 c2, .string c3, .bool c4, .int .u8 c5, .int .u64 c6, .int .u64 c7, .string c8, .string c9, .bool c10, .bool c11, .int .u8 c12, .int .u64 c13, .int .u64 c14, .string c15, .slice none 0 0, .int .u8 c17, .string c18, .string c19, .int .u32 c20, .int .u16 c21, .int .u32 c22, .int .i64 c23, .int .u32 c24, .int .u32 c25, .int .u32 c26, .int .u32 c27, .string c28, .int .i64 c29, .bool c30, .int .u8 c31, .int .u8 c32, .string c33, .string c34, .slice p35 l35 k35, .int .u32 c36, .int .i64 c37, .int .u32 c38, .bool c39, .bool c40, .int .i64 c41, .int .u32 c42, .string c43, .bool c44, .bool c45, .bool c46, .bool c47, .int .u8 c48, .int .u64 c49, .int .u64 c50, .string c51, .slice p52 l52 k52, .bool c53, .string c54] 79)).alloc (.cells #[.int .i64 0, .int .i64 0, .int .u8 0, .string ⟨#[]⟩] 85)).alloc (.cells #[.int .i64 0, .int .i64 0, .int .u8 0, .string ⟨#[]⟩] 85)).alloc (.cells #[.string c9, .bool c10, .bool c11, .int .u8 c12, .int .u64 c13, .int .u64 c14, .string c15, .slice (some ⟨w.heap.size + 1 + 1 + 1 + 1, 0, none⟩) 0 0] 77)).alloc (.cells #[] 5))).heap[w.heap.size + 1 + 1]? = _ := (Below.heap_alloc _ _ _ (by simp)).trans (heap4c _ _ _ _ _)
    have hY2 : ((((((w.alloc (.cells #[.int .i64 1, .int .i64 c1, .int .u32 c2, .string c3, .bool c4, .int .u8 c5, .int .u64 c6, .int .u64 c7, .string c8, .string c9, .bool c10, .bool c11, .int .u8 c12, .int .u64 c13, .int .u64 c14, .string c15, .slice none 0 0, .int .u8 c17, .string c18, .string c19, .int .u32 c20, .int .u16 c21, .int .u32 c22, .int .i64 c23, .int .u32 c24, .int .u32 c25, .int .u32 c26, .int .u32 c27, .string c28, .int .i64 c29, .bool c30, .int .u8 c31, .int .u8 c32, .string c33, .string c34, .slice p35 l35 k35, .int .u32 c36, .int .i64 c37, .int .u32 c38, .bool c39, .bool c40, .int .i64 c41, .int .u32 c42, .string c43, .bool c44, .bool c45, .bool c46, .bool c47, .int .u8 c48, .int .u64 c49, .int .u64 c50, .string c51, .slice p52 l52 k52, .bool c53, .string c54] 79)).alloc (.cells #[.int .i64 0, .int .i64 0, .int .u8 0, .string ⟨#[]⟩] 85)).alloc (.cells #[.int .i64 0, .int .i64 0, .int .u8 0, .string ⟨#[]⟩] 85)).alloc (.cells #[.string c9, .bool c10, .bool c11, .int .u8 c12, .int .u64 c13, .int .u64 c14, .string c15, .slice (some ⟨w.heap.size + 1 + 1 + 1 + 1, 0, none⟩) 0 0] 77)).alloc (.cells #[] 5))).heap[w.heap.size + 1 + 1 + 1]? = _ := (Below.heap_alloc _ _ _ (by simp)).trans (heap4d _ _ _ _ _)
    have hG2 : ((((((w.alloc (.cells #[.int .i64 1, .int .i64 c1, .int .u32 c2, .string c3, .bool c4, .int .u8 c5, .int .u64 c6, .int .u64 c7, .string c8, .string c9, .bool c10, .bool c11, .int .u8 c12, .int .u64 c13, .int .u64 c14, .string c15, .slice none 0 0, .int .u8 c17, .string c18, .string c19, .int .u32 c20, .int .u16 c21, .int .u32 c22, .int .i64 c23, .int .u32 c24, .int .u32 c25, .int .u32 c26, .int .u32 c27, .string c28, .int .i64 c29, .bool c30, .int .u8 c31, .int .u8 c32, .string c33, .string c34, .slice p35 l35 k35, .int .u32 c36, .int .i64 c37, .int .u32 c38, .bool c39, .bool c40, .int .i64 c41, .int .u32 c42, .string c43, .bool c44, .bool c45, .bool c46, .bool c47, .int .u8 c48, .int .u64 c49, .int .u64 c50, .string c51, .slice p52 l52 k52, .bool c53, .string c54] 79)).alloc (.cells #[.int .i64 0, .int .i64 0, .int .u8 0, .string ⟨#[]⟩] 85)).alloc (.cells #[.int .i64 0, .int .i64 0, .int .u8 0, .string ⟨#[]⟩] 85)).alloc (.cells #[.string c9, .bool c10, .bool c11, .int .u8 c12, .int .u64 c13, .int .u64 c14, .string c15, .slice (some ⟨w.heap.size + 1 + 1 + 1 + 1, 0, none⟩) 0 0] 77)).alloc (.cells #[] 5))).heap[w.heap.size + 1 + 1 + 1 + 1]? = _ := heap5e _ _ _ _ _ _
    have HR := Lib.hid hR2; have HT := Lib.hid hT2; have HY := Lib.hid hY2; have HG := Lib.hid hG2; have HB := Lib.hid hb2
    clear hA2 hR2 hT2 hY2 hG2 hb2
    go_wp2_with fail
    refine Calls.mono (send_nil c1 c9 c10 c11 c12 c13 c14 c15 (some ⟨(w.heap.size + 1 + 1 + 1 + 1), 0, none⟩) 0 0 _) ?_
    rintro e w3 ⟨rfl, hb3⟩
    have hb2 := HB.out
    have lt : ∀ {W : World} {k : Nat} {o : Obj}, W.heap[k]? = some o → k < W.heap.size := fun h => (Array.getElem?_eq_some_iff.1 h).1
    have hR3 := (hb3.block _ (lt HR.out)).trans HR.out
    have hT3 := (hb3.block _ (lt HT.out)).trans HT.out
    have hY3 := (hb3.block _ (lt HY.out)).trans HY.out
    have hG3 := (hb3.block _ (lt HG.out)).trans HG.out
    have hb4 : Below w.heap.size w w3 := hb2.trans (hb3.mono hb2.size)
    have hT3c : w3.cell? ⟨w.heap.size + 1 + 1, 1, none⟩ = some (.int .i64 0) := cell_of_row _ _ 1 _ _ _ hT3
    have hT3f : ∀ o, w3.frozen? ⟨w.heap.size + 1 + 1, o, none⟩ = false := fun o => frozen_of_row hT3
    clear HR HT HY HG HB hb3 hb2 lt
    have HR := Lib.hid hR3; have HT := Lib.hid hT3; have HY := Lib.hid hY3; have HG := Lib.hid hG3
    clear hR3 hT3 hY3 hG3
    go_upto_region 9 with (fail)
    have hT4 : (w3.setCell ⟨w.heap.size + 1 + 1, 1, none⟩ (.int .i64 2)).heap[w.heap.size + 1 + 1]? = some (.cells #[.int .i64 0, .int .i64 2, .int .u8 0, .string ⟨#[]⟩] 85 (0, 0)) := heap_set_same (o := 1) HT.out (.int .i64 2)
    have hR4 : (w3.setCell ⟨w.heap.size + 1 + 1, 1, none⟩ (.int .i64 2)).heap[w.heap.size + 1]? = some (.cells #[.int .i64 0, .int .i64 0, .int .u8 0, .string ⟨#[]⟩] 85 (0, 0)) := (Below.heap_setCell w3 ⟨w.heap.size + 1 + 1, 1, none⟩ (.int .i64 2) (w.heap.size + 1) (by simp)).trans HR.out
    have hY4 : (w3.setCell ⟨w.heap.size + 1 + 1, 1, none⟩ (.int .i64 2)).heap[w.heap.size + 1 + 1 + 1]? = some (.cells #[.string c9, .bool c10, .bool c11, .int .u8 c12, .int .u64 c13, .int .u64 c14, .string c15, .slice (some ⟨(w.heap.size + 1 + 1 + 1 + 1), 0, none⟩) 0 0] 77 (0, 0)) := (Below.heap_setCell w3 ⟨w.heap.size + 1 + 1, 1, none⟩ (.int .i64 2) (w.heap.size + 1 + 1 + 1) (by simp)).trans HY.out
    have hG4 := (Below.heap_setCell w3 ⟨w.heap.size + 1 + 1, 1, none⟩ (.int .i64 2) (w.heap.size + 1 + 1 + 1 + 1) (by simp; omega)).trans HG.out
    have hb5 : Below w.heap.size w (w3.setCell ⟨w.heap.size + 1 + 1, 1, none⟩ (.int .i64 2)) := hb4.setCell (by simp; omega) _
    generalize (w3.setCell ⟨w.heap.size + 1 + 1, 1, none⟩ (.int .i64 2)) = w4 at hT4 hR4 hY4 hG4 hb5 ⊢
    clear HR HT HY HG hT3c hT3f hb4
    have hcs' : (#[] : Array Value).size = 0 := rfl
    have H4 := Lib.hid (show Below w.heap.size w w4 ∧ w4.heap[w.heap.size + 1]? = some (.cells #[.int .i64 0, .int .i64 0, .int .u8 0, .string ⟨#[]⟩] 85 (0, 0)) ∧ w4.heap[w.heap.size + 1 + 1]? = some (.cells #[.int .i64 0, .int .i64 2, .int .u8 0, .string ⟨#[]⟩] 85 (0, 0)) ∧ w4.heap[w.heap.size + 1 + 1 + 1]? = some (.cells #[.string c9, .bool c10, .bool c11, .int .u8 c12, .int .u64 c13, .int .u64 c14, .string c15, .slice (some ⟨(w.heap.size + 1 + 1 + 1 + 1), 0, none⟩) 0 0] 77 (0, 0)) ∧ ∃ cu : Array Value, cu.size = 0 ∧ w4.heap[(w.heap.size + 1 + 1 + 1 + 1)]? = some (.cells cu 5 (0, 0)) from ⟨hb5, hR4, hT4, hY4, (#[] : Array Value), hcs', hG4⟩)
    clear hT4 hR4 hY4 hG4 hb5 hcs'
    go_wp2
    go_loopw [7] (fun i wr => ∃ k : Nat, k ≤ 0 ∧ i = .int .i64 k ∧ Below w.heap.size w wr ∧ wr.heap[w.heap.size + 1]? = some (.cells #[.int .i64 0, .int .i64 0, .int .u8 0, .string ⟨#[]⟩] 85 (0, 0)) ∧ wr.heap[w.heap.size + 1 + 1]? = some (.cells #[.int .i64 0, .int .i64 2, .int .u8 0, .string ⟨#[]⟩] 85 (0, 0)) ∧ wr.heap[w.heap.size + 1 + 1 + 1]? = some (.cells #[.string c9, .bool c10, .bool c11, .int .u8 c12, .int .u64 c13, .int .u64 c14, .string c15, .slice (some ⟨(w.heap.size + 1 + 1 + 1 + 1), 0, none⟩) 0 0] 77 (0, 0)) ∧ ∃ cu : Array Value, cu.size = 0 ∧ wr.heap[(w.heap.size + 1 + 1 + 1 + 1)]? = some (.cells cu 5 (0, 0))) (fun i _ => 0 - (intOf i).toNat)
    case atStart => exact ⟨0, Nat.zero_le _, rfl, H4.out⟩
    case round =>
      clear H4
      obtain ⟨k, hk, rfl, hbr, hRr, hTr, hYr, cu, hcu, hGr⟩ := hrel
      have hYc : wr.cell? ⟨w.heap.size + 1 + 1 + 1, 7, none⟩ = some (.slice (some ⟨(w.heap.size + 1 + 1 + 1 + 1), 0, none⟩) 0 0) := cell_of_row _ _ 7 _ _ _ hYr
      by_cases hlt : k < 0
      · exact absurd hlt (Nat.not_lt_zero _)
      · have HR := Lib.hid hRr; have HT := Lib.hid hTr
        clear hRr hTr hYr hGr hcu
        go_upto_region 27 with (fail)
        have hB := HT.out
        have hR := HR.out
        clear hYc HR HT
        go_step
        go_step
        refine wp_load_row 85 (.tmp 5) rfl (w.heap.size + 1 + 1) rfl 85 _ _ _ hB Tryz.underlying85 rfl size85 ?_
        go_step
        go_step
        refine wp_store_row 85 (.tmp 4) (.tmp 117) rfl (w.heap.size + 1) #[.int .i64 0, .int .i64 2, .int .u8 0, .string ⟨#[]⟩] rfl rfl 85 _ hR size85 rfl (by simp [Value.oneCell']) ?_
        have hR5 := setRow_heap wr (w.heap.size + 1) _ #[.int .i64 0, .int .i64 2, .int .u8 0, .string ⟨#[]⟩] 85 (0, 0) hR
        have hbel5 : Below w.heap.size w (wr.setRow (w.heap.size + 1) #[.int .i64 0, .int .i64 2, .int .u8 0, .string ⟨#[]⟩]) := below_setRow hbr (by omega) _
        generalize (wr.setRow (w.heap.size + 1) #[.int .i64 0, .int .i64 2, .int .u8 0, .string ⟨#[]⟩]) = w5 at hR5 hbel5 ⊢
        clear hB hR
        go_wp2
        exact bodyPost_ret (results_cell_row Tryz.results25 _ _ (w.heap.size + 1) 85 _ (0, 0) _ rfl hR5 Tryz.underlying85 rfl size85) rfl ⟨rfl, hbel5⟩
  · have HN := Lib.hid hzs; clear hzs
    go_enter Tryz.func25, Tryz.ntmps25
    go_upto_region 7 with (fail)
    go_wp2_with (first | (at_builtin; refine wpList_append_own _ rfl _ _ 33 rfl (w.heap.size + 1 + 1 + 1 + 1) 5 i0 (.int .u8 0) 1 1 Tryz.underlying33 hi hz0 hz1 hz2 rfl (by decide) _ 0 [] rfl ?c0 ⟨b2, off2, none⟩ l16 k16 ((zs.take l16).map (Value.int .u8)) rfl ?cl ?c1 ?c2 ?c3 ?c4 ?c5 ?_) | fail)
    case c0 => exact ⟨rfl, .inr ⟨_, 0, #[], rfl, Nat.le_refl _, heap5e _ _ _ _ _ _, Nat.le_refl _, Nat.zero_le _, rfl, rfl⟩⟩
    case cl => simp; omega
    case c1 =>
      intro j u hj
      have := news_at HN.out (by simpa using hj)
      rw [show (⟨b2, off2, none⟩ : Addr).add j = ⟨b2, off2 + j, none⟩ from by simp [Addr.add]]
      exact ((show Below w.heap.size w _ by go_grown).cell (p := ⟨b2, off2 + j, none⟩) hlt0).trans this
    case c2 =>
      intro u hu
      have hu := List.mem_of_mem_take (by simpa using hu : u ∈ List.take l16 (List.map (Value.int .u8) zs))
      obtain ⟨x, _, rfl⟩ := List.mem_map.1 hu
      rfl
    case c3 => unfold maxLen; omega
    case c4 => omega
    case c5 => simp
    intro v' w1 hown' hgrow hnn
    obtain ⟨_, ⟨hv, _⟩ | ⟨g, cap, cur, rfl, hg, hcur, hlc, _, hcs, _⟩⟩ := hown'
    · exact absurd hv (by simpa using hnn)
    have hb1 : Below w.heap.size w w1 := Below.grown (by go_grown) hgrow (by simp; omega) (fun k hk => by simp [Value.ownBlock] at hk; omega)
    have hA1 := (hgrow.block w.heap.size (by simp; omega) (by simp [Value.ownBlock]; omega)).trans ((Below.heap_alloc _ _ _ (by simp; omega)).trans (heap4 _ _ _ _ _))
    have hR1 := (hgrow.block (w.heap.size + 1) (by simp) (by simp [Value.ownBlock])).trans ((Below.heap_alloc _ _ _ (by simp)).trans (heap4b _ _ _ _ _))
    have hT1 := (hgrow.block (w.heap.size + 1 + 1) (by simp) (by simp [Value.ownBlock])).trans ((Below.heap_alloc _ _ _ (by simp)).trans (heap4c _ _ _ _ _))
    have hY1 := (hgrow.block (w.heap.size + 1 + 1 + 1) (by simp) (by simp [Value.ownBlock])).trans ((Below.heap_alloc _ _ _ (by simp)).trans (heap4d _ _ _ _ _))
    have hY1c : w1.cell? ⟨w.heap.size + 1 + 1 + 1, 7, none⟩ = some (.slice (some ⟨b2, off2, none⟩) l16 k16) := cell_of_row _ _ 7 _ _ _ hY1
    have hY1f : ∀ o, w1.frozen? ⟨w.heap.size + 1 + 1 + 1, o, none⟩ = false := fun o => frozen_of_row hY1
    have HA := Lib.hid hA1; have HR := Lib.hid hR1; have HT := Lib.hid hT1; have HY := Lib.hid hY1; have HG := Lib.hid hcur
    clear hA1 hR1 hT1 hY1 hcur hgrow hnn
    go_upto_region 8 with (fail)
    have hY2 := heap_set_same (o := 7) HY.out (.slice (some ⟨g, 0, none⟩) l16 cap)
    have hA2 := (Below.heap_setCell w1 ⟨w.heap.size + 1 + 1 + 1, 7, none⟩ (.slice (some ⟨g, 0, none⟩) l16 cap) w.heap.size (by simp; omega)).trans HA.out
    have hR2 := (Below.heap_setCell w1 ⟨w.heap.size + 1 + 1 + 1, 7, none⟩ (.slice (some ⟨g, 0, none⟩) l16 cap) (w.heap.size + 1) (by simp)).trans HR.out
    have hT2 := (Below.heap_setCell w1 ⟨w.heap.size + 1 + 1 + 1, 7, none⟩ (.slice (some ⟨g, 0, none⟩) l16 cap) (w.heap.size + 1 + 1) (by simp)).trans HT.out
    have hG2 := (Below.heap_setCell w1 ⟨w.heap.size + 1 + 1 + 1, 7, none⟩ (.slice (some ⟨g, 0, none⟩) l16 cap) g (by simp; omega)).trans HG.out
    have hb2 : Below w.heap.size w (w1.setCell ⟨w.heap.size + 1 + 1 + 1, 7, none⟩ (.slice (some ⟨g, 0, none⟩) l16 cap)) := hb1.setCell (by simp; omega) _
    generalize (w1.setCell ⟨w.heap.size + 1 + 1 + 1, 7, none⟩ (.slice (some ⟨g, 0, none⟩) l16 cap)) = w2 at hY2 hA2 hR2 hT2 hG2 hb2 ⊢
    clear HA HR HT HY HG hY1c hY1f hb1
    have hA2c : w2.cell? ⟨w.heap.size, 1, none⟩ = some (.int .i64 c1) := cell_of_row _ _ 1 _ _ _ hA2
    have hY2c0 : w2.cell? ⟨w.heap.size + 1 + 1 + 1, 0, none⟩ = some (.string c9) := cell_of_row _ _ 0 _ _ _ hY2
    have hY2c1 : w2.cell? ⟨w.heap.size + 1 + 1 + 1, 1, none⟩ = some (.bool c10) := cell_of_row _ _ 1 _ _ _ hY2
    have hY2c2 : w2.cell? ⟨w.heap.size + 1 + 1 + 1, 2, none⟩ = some (.bool c11) := cell_of_row _ _ 2 _ _ _ hY2
    have hY2c3 : w2.cell? ⟨w.heap.size + 1 + 1 + 1, 3, none⟩ = some (.int .u8 c12) := cell_of_row _ _ 3 _ _ _ hY2
    have hY2c4 : w2.cell? ⟨w.heap.size + 1 + 1 + 1, 4, none⟩ = some (.int .u64 c13) := cell_of_row _ _ 4 _ _ _ hY2
    have hY2c5 : w2.cell? ⟨w.heap.size + 1 + 1 + 1, 5, none⟩ = some (.int .u64 c14) := cell_of_row _ _ 5 _ _ _ hY2
    have hY2c6 : w2.cell? ⟨w.heap.size + 1 + 1 + 1, 6, none⟩ = some (.string c15) := cell_of_row _ _ 6 _ _ _ hY2
    have hY2c7 : w2.cell? ⟨w.heap.size + 1 + 1 + 1, 7, none⟩ = some (.slice (some ⟨g, 0, none⟩) l16 cap) := cell_of_row _ _ 7 _ _ _ hY2
    have HA := Lib.hid hA2; have HR := Lib.hid hR2; have HT := Lib.hid hT2; have HY := Lib.hid hY2; have HG := Lib.hid hG2
    clear hA2 hR2 hT2 hY2 hG2
    go_wp2_with fail
    refine Calls.mono (send_nil c1 c9 c10 c11 c12 c13 c14 c15 (some ⟨g, 0, none⟩) l16 cap _) ?_
    rintro e w3 ⟨rfl, hb3⟩
    have lt : ∀ {k : Nat} {o : Obj}, w2.heap[k]? = some o → k < w2.heap.size := fun h => (Array.getElem?_eq_some_iff.1 h).1
    have hR3 := (hb3.block _ (lt HR.out)).trans HR.out
    have hT3 := (hb3.block _ (lt HT.out)).trans HT.out
    have hY3 := (hb3.block _ (lt HY.out)).trans HY.out
    have hG3 := (hb3.block _ (lt HG.out)).trans HG.out
    have hb4 : Below w.heap.size w w3 := hb2.trans (hb3.mono hb2.size)
    have hT3c : w3.cell? ⟨w.heap.size + 1 + 1, 1, none⟩ = some (.int .i64 0) := cell_of_row _ _ 1 _ _ _ hT3
    have hT3f : ∀ o, w3.frozen? ⟨w.heap.size + 1 + 1, o, none⟩ = false := fun o => frozen_of_row hT3
    clear HA HR HT HY HG hA2c hY2c0 hY2c1 hY2c2 hY2c3 hY2c4 hY2c5 hY2c6 hY2c7 hb3 hb2 lt
    have HR := Lib.hid hR3; have HT := Lib.hid hT3; have HY := Lib.hid hY3; have HG := Lib.hid hG3
    clear hR3 hT3 hY3 hG3
    go_upto_region 9 with (fail)
    have hT4 : (w3.setCell ⟨w.heap.size + 1 + 1, 1, none⟩ (.int .i64 2)).heap[w.heap.size + 1 + 1]? = some (.cells #[.int .i64 0, .int .i64 2, .int .u8 0, .string ⟨#[]⟩] 85 (0, 0)) := heap_set_same (o := 1) HT.out (.int .i64 2)
    have hR4 : (w3.setCell ⟨w.heap.size + 1 + 1, 1, none⟩ (.int .i64 2)).heap[w.heap.size + 1]? = some (.cells #[.int .i64 0, .int .i64 0, .int .u8 0, .string ⟨#[]⟩] 85 (0, 0)) := (Below.heap_setCell w3 ⟨w.heap.size + 1 + 1, 1, none⟩ (.int .i64 2) (w.heap.size + 1) (by simp)).trans HR.out
    have hY4 : (w3.setCell ⟨w.heap.size + 1 + 1, 1, none⟩ (.int .i64 2)).heap[w.heap.size + 1 + 1 + 1]? = some (.cells #[.string c9, .bool c10, .bool c11, .int .u8 c12, .int .u64 c13, .int .u64 c14, .string c15, .slice (some ⟨g, 0, none⟩) l16 cap] 77 (0, 0)) := (Below.heap_setCell w3 ⟨w.heap.size + 1 + 1, 1, none⟩ (.int .i64 2) (w.heap.size + 1 + 1 + 1) (by simp)).trans HY.out
    have hG4 := (Below.heap_setCell w3 ⟨w.heap.size + 1 + 1, 1, none⟩ (.int .i64 2) g (by simp; omega)).trans HG.out
    have hb5 : Below w.heap.size w (w3.setCell ⟨w.heap.size + 1 + 1, 1, none⟩ (.int .i64 2)) := hb4.setCell (by simp; omega) _
    generalize (w3.setCell ⟨w.heap.size + 1 + 1, 1, none⟩ (.int .i64 2)) = w4 at hT4 hR4 hY4 hG4 hb5 ⊢
    clear HR HT HY HG hT3c hT3f hb4
    have hcs' : cur.size = cap := by simpa using hcs
    have H4 := Lib.hid (show Below w.heap.size w w4 ∧ w4.heap[w.heap.size + 1]? = some (.cells #[.int .i64 0, .int .i64 0, .int .u8 0, .string ⟨#[]⟩] 85 (0, 0)) ∧ w4.heap[w.heap.size + 1 + 1]? = some (.cells #[.int .i64 0, .int .i64 2, .int .u8 0, .string ⟨#[]⟩] 85 (0, 0)) ∧ w4.heap[w.heap.size + 1 + 1 + 1]? = some (.cells #[.string c9, .bool c10, .bool c11, .int .u8 c12, .int .u64 c13, .int .u64 c14, .string c15, .slice (some ⟨g, 0, none⟩) l16 cap] 77 (0, 0)) ∧ ∃ cu : Array Value, cu.size = cap ∧ w4.heap[g]? = some (.cells cu 5 (0, 0)) from ⟨hb5, hR4, hT4, hY4, cur, hcs', hG4⟩)
    clear hT4 hR4 hY4 hG4 hb5 hcs hcs'
    go_wp2
    go_loopw [7] (fun i wr => ∃ k : Nat, k ≤ l16 ∧ i = .int .i64 k ∧ Below w.heap.size w wr ∧ wr.heap[w.heap.size + 1]? = some (.cells #[.int .i64 0, .int .i64 0, .int .u8 0, .string ⟨#[]⟩] 85 (0, 0)) ∧ wr.heap[w.heap.size + 1 + 1]? = some (.cells #[.int .i64 0, .int .i64 2, .int .u8 0, .string ⟨#[]⟩] 85 (0, 0)) ∧ wr.heap[w.heap.size + 1 + 1 + 1]? = some (.cells #[.string c9, .bool c10, .bool c11, .int .u8 c12, .int .u64 c13, .int .u64 c14, .string c15, .slice (some ⟨g, 0, none⟩) l16 cap] 77 (0, 0)) ∧ ∃ cu : Array Value, cu.size = cap ∧ wr.heap[g]? = some (.cells cu 5 (0, 0))) (fun i _ => l16 - (intOf i).toNat)
    case atStart => exact ⟨0, Nat.zero_le _, rfl, H4.out⟩
    case round =>
      clear H4
      obtain ⟨k, hk, rfl, hbr, hRr, hTr, hYr, cu, hcu, hGr⟩ := hrel
      have hYc : wr.cell? ⟨w.heap.size + 1 + 1 + 1, 7, none⟩ = some (.slice (some ⟨g, 0, none⟩) l16 cap) := cell_of_row _ _ 7 _ _ _ hYr
      by_cases hlt : k < l16
      · have hkc : k < cu.size := by omega
        have hGc : wr.cell? ⟨g, k, none⟩ = some cu[k] := (cell_of_row _ _ k _ _ _ hGr).trans (by simp [hkc])
        have hGf : wr.frozen? ⟨g, k, none⟩ = false := frozen_of_row hGr
        have HR := Lib.hid hRr; have HT := Lib.hid hTr; have HY := Lib.hid hYr; have HG := Lib.hid hGr; have HC := Lib.hid hcu
        clear hRr hTr hYr hGr hcu
        go_wp2
        go_roundw
        case rel => exact ⟨k + 1, by omega, by simp, hbr.setCell (by simp; omega) _, (Below.heap_setCell wr ⟨g, k, none⟩ _ (w.heap.size + 1) (by simp; omega)).trans HR.out, (Below.heap_setCell wr ⟨g, k, none⟩ _ (w.heap.size + 1 + 1) (by simp; omega)).trans HT.out, (Below.heap_setCell wr ⟨g, k, none⟩ _ (w.heap.size + 1 + 1 + 1) (by simp; omega)).trans HY.out, cu.setIfInBounds k (.int .u8 85), by simpa using HC.out, heap_set_same (o := k) HG.out _⟩
        case measure => simp [intOf]; omega
      · have HR := Lib.hid hRr; have HT := Lib.hid hTr
        clear hRr hTr hYr hGr hcu
        go_upto_region 27 with (fail)
        have hB := HT.out
        have hR := HR.out
        clear hYc HR HT
        go_step
        go_step
        refine wp_load_row 85 (.tmp 5) rfl (w.heap.size + 1 + 1) rfl 85 _ _ _ hB Tryz.underlying85 rfl size85 ?_
        go_step
        go_step
        refine wp_store_row 85 (.tmp 4) (.tmp 117) rfl (w.heap.size + 1) #[.int .i64 0, .int .i64 2, .int .u8 0, .string ⟨#[]⟩] rfl rfl 85 _ hR size85 rfl (by simp [Value.oneCell']) ?_
        have hR5 := setRow_heap wr (w.heap.size + 1) _ #[.int .i64 0, .int .i64 2, .int .u8 0, .string ⟨#[]⟩] 85 (0, 0) hR
        have hbel5 : Below w.heap.size w (wr.setRow (w.heap.size + 1) #[.int .i64 0, .int .i64 2, .int .u8 0, .string ⟨#[]⟩]) := below_setRow hbr (by omega) _
        generalize (wr.setRow (w.heap.size + 1) #[.int .i64 0, .int .i64 2, .int .u8 0, .string ⟨#[]⟩]) = w5 at hR5 hbel5 ⊢
        clear hB hR
        go_wp2
        exact bodyPost_ret (results_cell_row Tryz.results25 _ _ (w.heap.size + 1) 85 _ (0, 0) _ rfl hR5 Tryz.underlying85 rfl size85) rfl ⟨rfl, hbel5⟩
end Go.Proofs.YtmkcndaidopkpaaGreatDoor
