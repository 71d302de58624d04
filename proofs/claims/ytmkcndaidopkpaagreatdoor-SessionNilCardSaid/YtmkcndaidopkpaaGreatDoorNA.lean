import Derived.Test.YtmkcndaidopkpaaGreatDoorNB
namespace Go.Proofs.YtmkcndaidopkpaaGreatDoor
open Go Go.ChangeShapes Go.WideShapes Go.ChangeAt Go.RowKit
set_option maxRecDepth 100000
set_option maxHeartbeats 4000000
theorem wpList_readTo_g {P : Program} {ops : Array Oper} {rest : List Oper} {o : Oper} {a : Act} {w : World} {Q : Exit → Act → World → Prop} (hw : Region.wanted o (yielded ops a.tmps) = true) (dst : Option Tmp) (hdst : o.dst = dst)
    (v : Value) (hrun : (execOp a.eval o).run P w = .ok (.value v) w) (h : wpList P ops Q rest (a.put dst v) w) : wpList P ops Q (o :: rest) a w := by
  subst hdst
  simp only [wpList, hw, if_true]
  refine .inl ?_
  unfold Oper.wp
  rw [hrun, Oper.upon_value]
  exact h
theorem nil_any (c0 : Int) (c1 : Int) (c2 : Int) (c3 : ByteArray) (c4 : Bool) (c5 : Int) (c6 : Int) (c7 : Int) (c8 : ByteArray) (c9 : ByteArray) (c10 : Bool) (c11 : Bool) (c12 : Int) (c13 : Int) (c14 : Int) (c15 : ByteArray) (p16 : Option Addr) (l16 k16 : Nat) (c17 : Int) (c18 : ByteArray) (c19 : ByteArray) (c20 : Int) (c21 : Int) (c22 : Int) (c23 : Int) (c24 : Int) (c25 : Int) (c26 : Int) (c27 : Int) (c28 : ByteArray) (c29 : Int) (c30 : Bool) (c31 : Int) (c32 : Int) (c33 : ByteArray) (c34 : ByteArray) (p35 : Option Addr) (l35 k35 : Nat) (c36 : Int) (c37 : Int) (c38 : Int) (c39 : Bool) (c40 : Bool) (c41 : Int) (c42 : Int) (c43 : ByteArray) (c44 : Bool) (c45 : Bool) (c46 : Bool) (c47 : Bool) (c48 : Int) (c49 : Int) (c50 : Int) (c51 : ByteArray) (p52 : Option Addr) (l52 k52 : Nat) (c53 : Bool) (c54 : ByteArray) (w : World) (hworks : ∀ w2, Below w.heap.size w w2 → Calls Tryz.prog 13 #[] w2 fun e w3 => e = .returned (.bool true) ∧ Below w2.heap.size w2 w3) (hm : MarksOk w p35 l35 k35) (hb : BytesOk w p52 l52 k52) (ho : BytesOk w p16 l16 k16) :
  Calls Tryz.prog 7 #[.agg #[.int .i64 c0, .int .i64 c1, .int .u32 c2, .string c3, .bool c4, .int .u8 c5, .int .u64 c6, .int .u64 c7, .string c8, .string c9, .bool c10, .bool c11, .int .u8 c12, .int .u64 c13, .int .u64 c14, .string c15, .slice p16 l16 k16, .int .u8 c17, .string c18, .string c19, .int .u32 c20, .int .u16 c21, .int .u32 c22, .int .i64 c23, .int .u32 c24, .int .u32 c25, .int .u32 c26, .int .u32 c27, .string c28, .int .i64 c29, .bool c30, .int .u8 c31, .int .u8 c32, .string c33, .string c34, .slice p35 l35 k35, .int .u32 c36, .int .i64 c37, .int .u32 c38, .bool c39, .bool c40, .int .i64 c41, .int .u32 c42, .string c43, .bool c44, .bool c45, .bool c46, .bool c47, .int .u8 c48, .int .u64 c49, .int .u64 c50, .string c51, .slice p52 l52 k52, .bool c53, .string c54]] w fun e w' => e = .returned (.bool true) ∧ Below w.heap.size w w' := by
  have HR0 : (loadVar 79 ⟨w.heap.size, 0, none⟩).run Tryz.prog (w.alloc (.cells #[.int .i64 c0, .int .i64 c1, .int .u32 c2, .string c3, .bool c4, .int .u8 c5, .int .u64 c6, .int .u64 c7, .string c8, .string c9, .bool c10, .bool c11, .int .u8 c12, .int .u64 c13, .int .u64 c14, .string c15, .slice p16 l16 k16, .int .u8 c17, .string c18, .string c19, .int .u32 c20, .int .u16 c21, .int .u32 c22, .int .i64 c23, .int .u32 c24, .int .u32 c25, .int .u32 c26, .int .u32 c27, .string c28, .int .i64 c29, .bool c30, .int .u8 c31, .int .u8 c32, .string c33, .string c34, .slice p35 l35 k35, .int .u32 c36, .int .i64 c37, .int .u32 c38, .bool c39, .bool c40, .int .i64 c41, .int .u32 c42, .string c43, .bool c44, .bool c45, .bool c46, .bool c47, .int .u8 c48, .int .u64 c49, .int .u64 c50, .string c51, .slice p52 l52 k52, .bool c53, .string c54] 79)) = .ok (.agg #[.int .i64 c0, .int .i64 c1, .int .u32 c2, .string c3, .bool c4, .int .u8 c5, .int .u64 c6, .int .u64 c7, .string c8, .string c9, .bool c10, .bool c11, .int .u8 c12, .int .u64 c13, .int .u64 c14, .string c15, .slice p16 l16 k16, .int .u8 c17, .string c18, .string c19, .int .u32 c20, .int .u16 c21, .int .u32 c22, .int .i64 c23, .int .u32 c24, .int .u32 c25, .int .u32 c26, .int .u32 c27, .string c28, .int .i64 c29, .bool c30, .int .u8 c31, .int .u8 c32, .string c33, .string c34, .slice p35 l35 k35, .int .u32 c36, .int .i64 c37, .int .u32 c38, .bool c39, .bool c40, .int .i64 c41, .int .u32 c42, .string c43, .bool c44, .bool c45, .bool c46, .bool c47, .int .u8 c48, .int .u64 c49, .int .u64 c50, .string c51, .slice p52 l52 k52, .bool c53, .string c54]) (w.alloc (.cells #[.int .i64 c0, .int .i64 c1, .int .u32 c2, .string c3, .bool c4, .int .u8 c5, .int .u64 c6, .int .u64 c7, .string c8, .string c9, .bool c10, .bool c11, .int .u8 c12, .int .u64 c13, .int .u64 c14, .string c15, .slice p16 l16 k16, .int .u8 c17, .string c18, .string c19, .int .u32 c20, .int .u16 c21, .int .u32 c22, .int .i64 c23, .int .u32 c24, .int .u32 c25, .int .u32 c26, .int .u32 c27, .string c28, .int .i64 c29, .bool c30, .int .u8 c31, .int .u8 c32, .string c33, .string c34, .slice p35 l35 k35, .int .u32 c36, .int .i64 c37, .int .u32 c38, .bool c39, .bool c40, .int .i64 c41, .int .u32 c42, .string c43, .bool c44, .bool c45, .bool c46, .bool c47, .int .u8 c48, .int .u64 c49, .int .u64 c50, .string c51, .slice p52 l52 k52, .bool c53, .string c54] 79)) := run_part (cs := #[.int .i64 c0, .int .i64 c1, .int .u32 c2, .string c3, .bool c4, .int .u8 c5, .int .u64 c6, .int .u64 c7, .string c8, .string c9, .bool c10, .bool c11, .int .u8 c12, .int .u64 c13, .int .u64 c14, .string c15, .slice p16 l16 k16, .int .u8 c17, .string c18, .string c19, .int .u32 c20, .int .u16 c21, .int .u32 c22, .int .i64 c23, .int .u32 c24, .int .u32 c25, .int .u32 c26, .int .u32 c27, .string c28, .int .i64 c29, .bool c30, .int .u8 c31, .int .u8 c32, .string c33, .string c34, .slice p35 l35 k35, .int .u32 c36, .int .i64 c37, .int .u32 c38, .bool c39, .bool c40, .int .i64 c41, .int .u32 c42, .string c43, .bool c44, .bool c45, .bool c46, .bool c47, .int .u8 c48, .int .u64 c49, .int .u64 c50, .string c51, .slice p52 l52 k52, .bool c53, .string c54]) (heap1 _ _) 0 #[.int .i64 c0, .int .i64 c1, .int .u32 c2, .string c3, .bool c4, .int .u8 c5, .int .u64 c6, .int .u64 c7, .string c8, .string c9, .bool c10, .bool c11, .int .u8 c12, .int .u64 c13, .int .u64 c14, .string c15, .slice p16 l16 k16, .int .u8 c17, .string c18, .string c19, .int .u32 c20, .int .u16 c21, .int .u32 c22, .int .i64 c23, .int .u32 c24, .int .u32 c25, .int .u32 c26, .int .u32 c27, .string c28, .int .i64 c29, .bool c30, .int .u8 c31, .int .u8 c32, .string c33, .string c34, .slice p35 l35 k35, .int .u32 c36, .int .i64 c37, .int .u32 c38, .bool c39, .bool c40, .int .i64 c41, .int .u32 c42, .string c43, .bool c44, .bool c45, .bool c46, .bool c47, .int .u8 c48, .int .u64 c49, .int .u64 c50, .string c51, .slice p52 l52 k52, .bool c53, .string c54] (by kernel_rfl) Tryz.underlying79 rfl (by kernel_rfl)
  have HR := Lib.hid HR0; clear HR0
  have HW := Lib.hid hworks; clear hworks
  go_enter Tryz.func7, Tryz.ntmps7
  go_upto_region 1 with (fail)
  iterate 1 go_step
  refine wpList_load_part rfl 79 (.tmp 1) rfl w.heap.size 0 rfl _ HR.out ?_
  clear HR
  go_wp2_with fail
  have hv := vast_any c0 c1 c2 c3 c4 c5 c6 c7 c8 c9 c10 c11 c12 c13 c14 c15 p16 l16 k16 c17 c18 c19 c20 c21 c22 c23 c24 c25 c26 c27 c28 c29 c30 c31 c32 c33 c34 p35 l35 k35 c36 c37 c38 c39 c40 c41 c42 c43 c44 c45 c46 c47 c48 c49 c50 c51 p52 l52 k52 c53 c54 (w.alloc (.cells #[.int .i64 c0, .int .i64 c1, .int .u32 c2, .string c3, .bool c4, .int .u8 c5, .int .u64 c6, .int .u64 c7, .string c8, .string c9, .bool c10, .bool c11, .int .u8 c12, .int .u64 c13, .int .u64 c14, .string c15, .slice p16 l16 k16, .int .u8 c17, .string c18, .string c19, .int .u32 c20, .int .u16 c21, .int .u32 c22, .int .i64 c23, .int .u32 c24, .int .u32 c25, .int .u32 c26, .int .u32 c27, .string c28, .int .i64 c29, .bool c30, .int .u8 c31, .int .u8 c32, .string c33, .string c34, .slice p35 l35 k35, .int .u32 c36, .int .i64 c37, .int .u32 c38, .bool c39, .bool c40, .int .i64 c41, .int .u32 c42, .string c43, .bool c44, .bool c45, .bool c46, .bool c47, .int .u8 c48, .int .u64 c49, .int .u64 c50, .string c51, .slice p52 l52 k52, .bool c53, .string c54] 79))
  simp only [World.size_alloc] at hv
  refine Calls.mono hv ?_
  clear hv
  rintro e w2 ⟨bb, rfl, hb2⟩
  have hbel2 : Below w.heap.size w w2 := Below.trans (by go_grown) (hb2.mono (by simp; omega))
  have hA2 := (hb2.block w.heap.size (by simp; omega)).trans (heap2 _ _ _)
  cases bb
  · clear hb2
    have HL := Lib.hid (run_part (P := Tryz.prog) (cs := #[.int .i64 c0, .int .i64 c1, .int .u32 c2, .string c3, .bool c4, .int .u8 c5, .int .u64 c6, .int .u64 c7, .string c8, .string c9, .bool c10, .bool c11, .int .u8 c12, .int .u64 c13, .int .u64 c14, .string c15, .slice p16 l16 k16, .int .u8 c17, .string c18, .string c19, .int .u32 c20, .int .u16 c21, .int .u32 c22, .int .i64 c23, .int .u32 c24, .int .u32 c25, .int .u32 c26, .int .u32 c27, .string c28, .int .i64 c29, .bool c30, .int .u8 c31, .int .u8 c32, .string c33, .string c34, .slice p35 l35 k35, .int .u32 c36, .int .i64 c37, .int .u32 c38, .bool c39, .bool c40, .int .i64 c41, .int .u32 c42, .string c43, .bool c44, .bool c45, .bool c46, .bool c47, .int .u8 c48, .int .u64 c49, .int .u64 c50, .string c51, .slice p52 l52 k52, .bool c53, .string c54]) hA2 0 #[.int .i64 c0, .int .i64 c1, .int .u32 c2, .string c3, .bool c4, .int .u8 c5, .int .u64 c6, .int .u64 c7, .string c8, .string c9, .bool c10, .bool c11, .int .u8 c12, .int .u64 c13, .int .u64 c14, .string c15, .slice p16 l16 k16, .int .u8 c17, .string c18, .string c19, .int .u32 c20, .int .u16 c21, .int .u32 c22, .int .i64 c23, .int .u32 c24, .int .u32 c25, .int .u32 c26, .int .u32 c27, .string c28, .int .i64 c29, .bool c30, .int .u8 c31, .int .u8 c32, .string c33, .string c34, .slice p35 l35 k35, .int .u32 c36, .int .i64 c37, .int .u32 c38, .bool c39, .bool c40, .int .i64 c41, .int .u32 c42, .string c43, .bool c44, .bool c45, .bool c46, .bool c47, .int .u8 c48, .int .u64 c49, .int .u64 c50, .string c51, .slice p52 l52 k52, .bool c53, .string c54] (by kernel_rfl) Tryz.underlying79 rfl (by kernel_rfl))
    have HA := Lib.hid hA2; clear hA2
    go_upto_region 4 with (fail)
    iterate 4 go_step
    refine wpList_load_part rfl 79 (.tmp 1) rfl w.heap.size 0 rfl _ HL.out ?_
    clear HL
    go_wp2_with fail
    refine Calls.mono (does_all c0 c1 c2 c3 c4 c5 c6 c7 c8 c9 c10 c11 c12 c13 c14 c15 p16 l16 k16 c17 c18 c19 c20 c21 c22 c23 c24 c25 c26 c27 c28 c29 c30 c31 c32 c33 c34 p35 l35 k35 c36 c37 c38 c39 c40 c41 c42 c43 c44 c45 c46 c47 c48 c49 c50 c51 p52 l52 k52 c53 c54 w2 (hm.below hbel2) (hb.below hbel2) (ho.below hbel2)) ?_
    rintro e w3 ⟨rfl, hb3⟩
    have hA3 := (hb3.block w.heap.size ((Array.getElem?_eq_some_iff.1 HA.out).1)).trans HA.out
    have hbel3 : Below w.heap.size w w3 := hbel2.trans (hb3.mono hbel2.size)
    have hc0 : w3.cell? ⟨w.heap.size, 0, none⟩ = some (.int .i64 c0) := cell_of_row _ _ 0 _ _ _ hA3
    have hc1 : w3.cell? ⟨w.heap.size, 1, none⟩ = some (.int .i64 c1) := cell_of_row _ _ 1 _ _ _ hA3
    have hz : w.heap.size < w3.heap.size := (Array.getElem?_eq_some_iff.1 hA3).1
    clear hA3 HA hb3
    go_upto_region 5 with (fail)
    by_cases hk : 0 ≤ c0 ∧ c0 ≤ 7
    · have ht : told c0 = 2 := if_pos hk
      rw [ht]
      obtain ⟨k1, k2⟩ := hk
      clear ht
      go_upto_region 8 with (go_in)
      go_wp2_with (first | (go_at_call 19; go_in) | (go_at_call 20; go_in))
      refine Calls.mono (begin_nil _) ?_
      rintro e w4 ⟨rfl, hb4⟩
      apply_assumption
      skip
      refine wpList_readTo_g ?hw (some 93) rfl (.int .u8 0) (by kernel_rfl) ?_
      case hw => simp [Region.wanted, yielded]
      have hbel4 : Below w.heap.size w w4 := Below.trans (by go_grown) (hb4.mono (by simp; omega))
      clear hb4
      go_wp2_with fail
      refine Calls.mono (HW.out w4 hbel4) ?_
      rintro e w5 ⟨rfl, hb5⟩
      go_wp2
      go_returns
      exact ⟨rfl, hbel4.trans (hb5.mono hbel4.size)⟩
    · have ht : told c0 = 0 := if_neg hk
      rw [ht]
      clear ht
      by_cases k1 : 0 ≤ c0
      · have k2 : ¬ c0 ≤ 7 := fun h => hk ⟨k1, h⟩
        clear hk
        go_upto_region 8 with (go_in)
        go_wp2_with (first | (go_at_call 19; go_in) | (go_at_call 20; go_in))
        refine Calls.mono (begin_nil _) ?_
        rintro e w4 ⟨rfl, hb4⟩
        apply_assumption
        skip
        refine wpList_readTo_g ?hw (some 93) rfl (.int .u8 0) (by kernel_rfl) ?_
        case hw => simp [Region.wanted, yielded]
        have hbel4 : Below w.heap.size w w4 := Below.trans (by go_grown) (hb4.mono (by simp; omega))
        clear hb4
        go_wp2_with fail
        refine Calls.mono (HW.out w4 hbel4) ?_
        rintro e w5 ⟨rfl, hb5⟩
        go_wp2
        go_returns
        exact ⟨rfl, hbel4.trans (hb5.mono hbel4.size)⟩
      · clear hk
        go_upto_region 8 with (go_in)
        go_wp2_with (first | (go_at_call 19; go_in) | (go_at_call 20; go_in))
        refine Calls.mono (begin_nil _) ?_
        rintro e w4 ⟨rfl, hb4⟩
        apply_assumption
        skip
        refine wpList_readTo_g ?hw (some 93) rfl (.int .u8 0) (by kernel_rfl) ?_
        case hw => simp [Region.wanted, yielded]
        have hbel4 : Below w.heap.size w w4 := Below.trans (by go_grown) (hb4.mono (by simp; omega))
        clear hb4
        go_wp2_with fail
        refine Calls.mono (HW.out w4 hbel4) ?_
        rintro e w5 ⟨rfl, hb5⟩
        go_wp2
        go_returns
        exact ⟨rfl, hbel4.trans (hb5.mono hbel4.size)⟩
  · clear hA2 hb2
    go_wp2_with fail
    refine Calls.mono (HW.out w2 hbel2) ?_
    rintro e w3 ⟨rfl, hb3⟩
    go_wp2
    go_returns
    exact ⟨rfl, hbel2.trans (hb3.mono hbel2.size)⟩
end Go.Proofs.YtmkcndaidopkpaaGreatDoor
