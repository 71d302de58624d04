import Derived.Test.YtmkcndaidopkpaaGreatDoorCB
import Derived.Laws.AppendOwnNone
import Derived.Deep.Cut
import Derived.Deep.DeepCutAuto
import Derived.Lib.Hide
import Derived.Laws.CopyOwn
namespace Go.Proofs.YtmkcndaidopkpaaGreatDoor
open Go Go.ChangeShapes Go.WideShapes Go.ChangeAt Go.RowKit
theorem size39 : (Tryz.prog.info? 39).map (·.size) = some 38 := by kernel_rfl
theorem size79 : (Tryz.prog.info? 79).map (·.size) = some 55 := by kernel_rfl
theorem zero98 : (match Tryz.prog.info? 98 with | some i => (match i.zero with | some z => Nat.beq z.cells.size 5 && Nat.beq i.size 5 && Nat.beq i.bytes 56 | none => false) | none => false) = true := by kernel_rfl
theorem parts98 : ∃ i z, Tryz.prog.info? 98 = some i ∧ i.zero = some z ∧ i.size = 5 ∧ i.bytes = 56 ∧ z.cells.size = 5 := by
  have h := zero98
  split at h
  · rename_i i hi
    split at h
    · rename_i z hz
      simp only [Bool.and_eq_true] at h
      exact ⟨i, z, hi, hz, Nat.eq_of_beq_eq_true h.1.2, Nat.eq_of_beq_eq_true h.2, Nat.eq_of_beq_eq_true h.1.1⟩
    · cases h
  · cases h
theorem heap_set_same {w : World} {b o : Nat} {c : Array Value} {t : TypeId} {fr : Nat × Nat} (h : w.heap[b]? = some (.cells c t fr)) (v : Value) : (w.setCell ⟨b, o, none⟩ v).heap[b]? = some (.cells (c.setIfInBounds o v) t fr) := by
  simp [World.setCell, Array.getElem?_modify, h]
def MarksOk (w : World) (p : Option Addr) (l k : Nat) : Prop :=
  (p = none ∧ l = 0 ∧ k = 0) ∨ ∃ (b off : Nat) (news : List Value), p = some ⟨b, off, none⟩ ∧ b < w.heap.size ∧ news.length = l * 5 ∧ (∀ j u, news[j]? = some u → w.cell? ⟨b, off + j, none⟩ = some u) ∧ (∀ u ∈ news, u.oneCell' = true) ∧ l ≤ maxLen ∧ l * 56 ≤ 140737488355328
theorem MarksOk.below {w w' : World} {p : Option Addr} {l k : Nat} (h : MarksOk w p l k) (hb : Below w.heap.size w w') : MarksOk w' p l k := by
  rcases h with h | ⟨b, off, zs, rfl, h1, h2, h3, h4, h5, h6⟩
  · exact .inl h
  · exact .inr ⟨b, off, zs, rfl, Nat.lt_of_lt_of_le h1 hb.size, h2, fun j u hj => (hb.cell (by exact h1)).trans (h3 j u hj), h4, h5, h6⟩
set_option maxRecDepth 1000000
set_option maxHeartbeats 4000000
def SomePer (c0 : Int) (c1 : ByteArray) (c2 : ByteArray) (c3 : Int) (c4 : Int) (c5 : Int) (c6 : Int) (c7 : Int) (c8 : Int) (c9 : Int) (c10 : Int) (c11 : ByteArray) (c12 : Int) (c13 : Bool) (c14 : Int) (c15 : Int) (c16 : ByteArray) (c17 : ByteArray) (c19 : Int) (c20 : Int) (c21 : Int) (c22 : Bool) (c23 : Bool) (c24 : Int) (c25 : Int) (c26 : ByteArray) (c27 : Bool) (c28 : Bool) (c29 : Bool) (c30 : Bool) (c31 : Int) (c32 : Int) (c33 : Int) (c34 : ByteArray) (c36 : Bool) (c37 : ByteArray) (w : World) (e : Ending) (w' : World) : Prop :=
  ∃ (a18 : Option Addr) (b18 d18 : Nat) (a35 : Option Addr) (b35 d35 : Nat), e = .returned (.agg #[.int .u8 c0, .string c1, .string c2, .int .u32 c3, .int .u16 c4, .int .u32 c5, .int .i64 c6, .int .u32 c7, .int .u32 c8, .int .u32 c9, .int .u32 c10, .string c11, .int .i64 c12, .bool c13, .int .u8 c14, .int .u8 c15, .string c16, .string c17, .slice a18 b18 d18, .int .u32 c19, .int .i64 c20, .int .u32 c21, .bool c22, .bool c23, .int .i64 c24, .int .u32 c25, .string c26, .bool c27, .bool c28, .bool c29, .bool c30, .int .u8 c31, .int .u64 c32, .int .u64 c33, .string c34, .slice a35 b35 d35, .bool c36, .string c37]) ∧ Below w.heap.size w w' 
theorem copy_any (c0 : Int) (c1 : ByteArray) (c2 : ByteArray) (c3 : Int) (c4 : Int) (c5 : Int) (c6 : Int) (c7 : Int) (c8 : Int) (c9 : Int) (c10 : Int) (c11 : ByteArray) (c12 : Int) (c13 : Bool) (c14 : Int) (c15 : Int) (c16 : ByteArray) (c17 : ByteArray) (p18 : Option Addr) (l18 k18 : Nat) (c19 : Int) (c20 : Int) (c21 : Int) (c22 : Bool) (c23 : Bool) (c24 : Int) (c25 : Int) (c26 : ByteArray) (c27 : Bool) (c28 : Bool) (c29 : Bool) (c30 : Bool) (c31 : Int) (c32 : Int) (c33 : Int) (c34 : ByteArray) (p35 : Option Addr) (l35 k35 : Nat) (c36 : Bool) (c37 : ByteArray) (w : World) (hmarks : MarksOk w p18 l18 k18) (hbytes : BytesOk w p35 l35 k35) :
  Calls Tryz.prog 56 #[.agg #[.int .u8 c0, .string c1, .string c2, .int .u32 c3, .int .u16 c4, .int .u32 c5, .int .i64 c6, .int .u32 c7, .int .u32 c8, .int .u32 c9, .int .u32 c10, .string c11, .int .i64 c12, .bool c13, .int .u8 c14, .int .u8 c15, .string c16, .string c17, .slice p18 l18 k18, .int .u32 c19, .int .i64 c20, .int .u32 c21, .bool c22, .bool c23, .int .i64 c24, .int .u32 c25, .string c26, .bool c27, .bool c28, .bool c29, .bool c30, .int .u8 c31, .int .u64 c32, .int .u64 c33, .string c34, .slice p35 l35 k35, .bool c36, .string c37]] w (SomePer c0 c1 c2 c3 c4 c5 c6 c7 c8 c9 c10 c11 c12 c13 c14 c15 c16 c17 c19 c20 c21 c22 c23 c24 c25 c26 c27 c28 c29 c30 c31 c32 c33 c34 c36 c37 w) := by
  obtain ⟨i0, z, hi, hz0, hz1, hz2, hzs⟩ := parts98
  rcases hmarks with ⟨rfl, rfl, rfl⟩ | ⟨b2, off2, news, rfl, hlt0, hlen, hnews, hone, hml, hbl⟩
  · go_enter Tryz.func56, Tryz.ntmps56
    go_upto_region 4 with (first | (go_at_call 91; go_loud (refine (copyBytes_ok (hbytes.below (by go_grown))).mono ?_); (rintro e w2 ⟨pb, lb, kb, rfl, hb2⟩); go_loud (have hB2 := (hb2.block w.heap.size (by simp; omega)).trans (heap2 _ _ _)); go_loud (have hR2 := (hb2.block (w.heap.size + 1) (by simp)).trans (heap_alloc2_new _ _ _)); go_loud (have hbel2 : Below w.heap.size w w2 := Below.trans (by go_grown) (hb2.mono (by simp; omega))); (have hc35' : w2.cell? ⟨w.heap.size, 35, none⟩ = some (.slice p35 l35 k35) := cell_of_row _ _ 35 _ _ _ hB2); (have hf' : ∀ o, w2.frozen? ⟨w.heap.size, o, none⟩ = false := fun o => frozen_of_row hB2); (have HB2 := Lib.hid hB2); (have HR2 := Lib.hid hR2); clear hB2 hR2))
    have hB3 : (w2.setCell ⟨w.heap.size, 35, none⟩ (.slice pb lb kb)).heap[w.heap.size]? = some (.cells #[.int .u8 c0, .string c1, .string c2, .int .u32 c3, .int .u16 c4, .int .u32 c5, .int .i64 c6, .int .u32 c7, .int .u32 c8, .int .u32 c9, .int .u32 c10, .string c11, .int .i64 c12, .bool c13, .int .u8 c14, .int .u8 c15, .string c16, .string c17, .slice none 0 0, .int .u32 c19, .int .i64 c20, .int .u32 c21, .bool c22, .bool c23, .int .i64 c24, .int .u32 c25, .string c26, .bool c27, .bool c28, .bool c29, .bool c30, .int .u8 c31, .int .u64 c32, .int .u64 c33, .string c34, .slice pb lb kb, .bool c36, .string c37] 39 (0, 0)) := heap_set_same (o := 35) HB2.out (.slice pb lb kb)
    have hR3 := (Below.heap_setCell w2 ⟨w.heap.size, 35, none⟩ (.slice pb lb kb) (w.heap.size + 1) (by simp)).trans HR2.out
    have hbel3 : Below w.heap.size w (w2.setCell ⟨w.heap.size, 35, none⟩ (.slice pb lb kb)) := hbel2.setCell (Nat.le_refl _) _
    generalize (w2.setCell ⟨w.heap.size, 35, none⟩ (.slice pb lb kb)) = w3 at hB3 hR3 hbel3 ⊢
    go_step
    go_step
    refine wp_load_row 39 (.tmp 1) rfl w.heap.size rfl 39 _ _ _ hB3 Tryz.underlying39 rfl size39 ?_
    go_step
    go_step
    refine wp_store_row 39 (.tmp 2) (.tmp 13) rfl (w.heap.size + 1) #[.int .u8 c0, .string c1, .string c2, .int .u32 c3, .int .u16 c4, .int .u32 c5, .int .i64 c6, .int .u32 c7, .int .u32 c8, .int .u32 c9, .int .u32 c10, .string c11, .int .i64 c12, .bool c13, .int .u8 c14, .int .u8 c15, .string c16, .string c17, .slice none 0 0, .int .u32 c19, .int .i64 c20, .int .u32 c21, .bool c22, .bool c23, .int .i64 c24, .int .u32 c25, .string c26, .bool c27, .bool c28, .bool c29, .bool c30, .int .u8 c31, .int .u64 c32, .int .u64 c33, .string c34, .slice pb lb kb, .bool c36, .string c37] rfl rfl 39 _ hR3 size39 rfl (by simp [Value.oneCell']) ?_
    have hR4 := setRow_heap w3 (w.heap.size + 1) _ #[.int .u8 c0, .string c1, .string c2, .int .u32 c3, .int .u16 c4, .int .u32 c5, .int .i64 c6, .int .u32 c7, .int .u32 c8, .int .u32 c9, .int .u32 c10, .string c11, .int .i64 c12, .bool c13, .int .u8 c14, .int .u8 c15, .string c16, .string c17, .slice none 0 0, .int .u32 c19, .int .i64 c20, .int .u32 c21, .bool c22, .bool c23, .int .i64 c24, .int .u32 c25, .string c26, .bool c27, .bool c28, .bool c29, .bool c30, .int .u8 c31, .int .u64 c32, .int .u64 c33, .string c34, .slice pb lb kb, .bool c36, .string c37] 39 (0, 0) hR3
    have hbel4 : Below w.heap.size w (w3.setRow (w.heap.size + 1) #[.int .u8 c0, .string c1, .string c2, .int .u32 c3, .int .u16 c4, .int .u32 c5, .int .i64 c6, .int .u32 c7, .int .u32 c8, .int .u32 c9, .int .u32 c10, .string c11, .int .i64 c12, .bool c13, .int .u8 c14, .int .u8 c15, .string c16, .string c17, .slice none 0 0, .int .u32 c19, .int .i64 c20, .int .u32 c21, .bool c22, .bool c23, .int .i64 c24, .int .u32 c25, .string c26, .bool c27, .bool c28, .bool c29, .bool c30, .int .u8 c31, .int .u64 c32, .int .u64 c33, .string c34, .slice pb lb kb, .bool c36, .string c37]) := below_setRow hbel3 (by omega) _
    generalize (w3.setRow (w.heap.size + 1) #[.int .u8 c0, .string c1, .string c2, .int .u32 c3, .int .u16 c4, .int .u32 c5, .int .i64 c6, .int .u32 c7, .int .u32 c8, .int .u32 c9, .int .u32 c10, .string c11, .int .i64 c12, .bool c13, .int .u8 c14, .int .u8 c15, .string c16, .string c17, .slice none 0 0, .int .u32 c19, .int .i64 c20, .int .u32 c21, .bool c22, .bool c23, .int .i64 c24, .int .u32 c25, .string c26, .bool c27, .bool c28, .bool c29, .bool c30, .int .u8 c31, .int .u64 c32, .int .u64 c33, .string c34, .slice pb lb kb, .bool c36, .string c37]) = w4 at hR4 hbel4 ⊢
    clear hB3 hR3 hbel3
    go_wp2
    refine bodyPost_ret (results_cell_row Tryz.results56 _ _ (w.heap.size + 1) 39 _ (0, 0) _ rfl hR4 Tryz.underlying39 rfl size39) rfl ?_
    exact ⟨_, _, _, _, _, _, rfl, hbel4⟩

  · have HN := Lib.hid hnews; clear hnews
    go_enter Tryz.func56, Tryz.ntmps56
    go_wp2_with (first | (at_builtin; refine wpList_append_own _ rfl _ _ 34 rfl w.heap.size 98 i0 z 5 56 Tryz.underlying34 hi hz0 hz1 hz2 hzs (by decide) _ _ _ rfl (World.ownsRow_nil _ _ _ _) ⟨b2, off2, none⟩ l18 k18 news rfl hlen ?c1 hone ?c2 ?c3 ?c4 ?_) | fail)
    case c1 =>
      intro j u hj
      have := HN.out j u hj
      rw [show (⟨b2, off2, none⟩ : Addr).add j = ⟨b2, off2 + j, none⟩ from by simp [Addr.add]]
      rw [World.cell?_alloc_past _ _ _ (by simp; omega), World.cell?_alloc_past _ _ _ (by exact hlt0)]
      exact this
    case c2 => simpa using hml
    case c3 => simpa using hbl
    case c4 => simp; omega
    intro v' w1 hown' hgrow _
    obtain ⟨pa, la, ka, rfl⟩ := ownsRow_slice hown'
    have hb0 := (Below.refl _ _).grown hgrow (Nat.le_refl _) (fun _ h => by cases h)
    have hB : w1.heap[w.heap.size]? = some (.cells #[.int .u8 c0, .string c1, .string c2, .int .u32 c3, .int .u16 c4, .int .u32 c5, .int .i64 c6, .int .u32 c7, .int .u32 c8, .int .u32 c9, .int .u32 c10, .string c11, .int .i64 c12, .bool c13, .int .u8 c14, .int .u8 c15, .string c16, .string c17, .slice (some ⟨b2, off2, none⟩) l18 k18, .int .u32 c19, .int .i64 c20, .int .u32 c21, .bool c22, .bool c23, .int .i64 c24, .int .u32 c25, .string c26, .bool c27, .bool c28, .bool c29, .bool c30, .int .u8 c31, .int .u64 c32, .int .u64 c33, .string c34, .slice p35 l35 k35, .bool c36, .string c37] 39 (0, 0)) := (hb0.block _ (by simp; omega)).trans (heap2 _ _ _)
    have hR := (hb0.block (w.heap.size + 1) (by simp)).trans (heap_alloc2_new _ _ _)
    have hsz : w.heap.size + 2 ≤ w1.heap.size := by have := hb0.size; simpa using this
    have hbel : Below w.heap.size w w1 := (((Below.refl _ _).alloc (Nat.le_refl _) _).alloc (by simp) _).trans (hb0.mono (by simp; omega))
    clear hown' hgrow hb0
    have hc18 : w1.cell? ⟨w.heap.size, 18, none⟩ = some (.slice (some ⟨b2, off2, none⟩) l18 k18) := cell_of_row _ _ 18 _ _ _ hB
    have hc35 : w1.cell? ⟨w.heap.size, 35, none⟩ = some (.slice p35 l35 k35) := cell_of_row _ _ 35 _ _ _ hB
    have hf : ∀ o, w1.frozen? ⟨w.heap.size, o, none⟩ = false := fun o => frozen_of_row hB
    have hb1 : Below w.heap.size w (w1.setCell ⟨w.heap.size, 18, none⟩ (.slice pa la ka)) := hbel.setCell (Nat.le_refl _) _
    have hcp : BytesOk (w1.setCell ⟨w.heap.size, 18, none⟩ (.slice pa la ka)) p35 l35 k35 := hbytes.below hb1
    have HB := Lib.hid hB; clear hB
    have HR := Lib.hid hR; clear hR
    have hlt : w.heap.size < (w1.setCell ⟨w.heap.size, 18, none⟩ (.slice pa la ka)).heap.size := by simp; omega
    have hlt2 : w.heap.size + 1 < (w1.setCell ⟨w.heap.size, 18, none⟩ (.slice pa la ka)).heap.size := by simp; omega
    go_upto_region 4 with (first | (go_at_call 91; refine (copyBytes_ok hcp).mono ?_; (rintro e w2 ⟨pb, lb, kb, rfl, hb2⟩); (have hB2 := (hb2.block _ hlt).trans (heap_set_same (o := 18) HB.out (.slice pa la ka))); (have hR2 := (hb2.block _ hlt2).trans ((Below.heap_setCell w1 ⟨w.heap.size, 18, none⟩ (.slice pa la ka) (w.heap.size + 1) (by simp)).trans HR.out)); (have hbel2 : Below w.heap.size w w2 := hb1.trans (hb2.mono (Nat.le_of_lt hlt))); (have hc35' : w2.cell? ⟨w.heap.size, 35, none⟩ = some (.slice p35 l35 k35) := cell_of_row _ _ 35 _ _ _ hB2); (have hf' : ∀ o, w2.frozen? ⟨w.heap.size, o, none⟩ = false := fun o => frozen_of_row hB2); (have HB2 := Lib.hid hB2); (have HR2 := Lib.hid hR2); clear hB2 hR2 hc18 hc35 hf))
    have hB3 : (w2.setCell ⟨w.heap.size, 35, none⟩ (.slice pb lb kb)).heap[w.heap.size]? = some (.cells #[.int .u8 c0, .string c1, .string c2, .int .u32 c3, .int .u16 c4, .int .u32 c5, .int .i64 c6, .int .u32 c7, .int .u32 c8, .int .u32 c9, .int .u32 c10, .string c11, .int .i64 c12, .bool c13, .int .u8 c14, .int .u8 c15, .string c16, .string c17, .slice pa la ka, .int .u32 c19, .int .i64 c20, .int .u32 c21, .bool c22, .bool c23, .int .i64 c24, .int .u32 c25, .string c26, .bool c27, .bool c28, .bool c29, .bool c30, .int .u8 c31, .int .u64 c32, .int .u64 c33, .string c34, .slice pb lb kb, .bool c36, .string c37] 39 (0, 0)) := heap_set_same (o := 35) HB2.out (.slice pb lb kb)
    have hR3 := (Below.heap_setCell w2 ⟨w.heap.size, 35, none⟩ (.slice pb lb kb) (w.heap.size + 1) (by simp)).trans HR2.out
    have hbel3 : Below w.heap.size w (w2.setCell ⟨w.heap.size, 35, none⟩ (.slice pb lb kb)) := hbel2.setCell (Nat.le_refl _) _
    generalize (w2.setCell ⟨w.heap.size, 35, none⟩ (.slice pb lb kb)) = w3 at hB3 hR3 hbel3 ⊢
    go_step
    go_step
    refine wp_load_row 39 (.tmp 1) rfl w.heap.size rfl 39 _ _ _ hB3 Tryz.underlying39 rfl size39 ?_
    go_step
    go_step
    refine wp_store_row 39 (.tmp 2) (.tmp 13) rfl (w.heap.size + 1) #[.int .u8 c0, .string c1, .string c2, .int .u32 c3, .int .u16 c4, .int .u32 c5, .int .i64 c6, .int .u32 c7, .int .u32 c8, .int .u32 c9, .int .u32 c10, .string c11, .int .i64 c12, .bool c13, .int .u8 c14, .int .u8 c15, .string c16, .string c17, .slice pa la ka, .int .u32 c19, .int .i64 c20, .int .u32 c21, .bool c22, .bool c23, .int .i64 c24, .int .u32 c25, .string c26, .bool c27, .bool c28, .bool c29, .bool c30, .int .u8 c31, .int .u64 c32, .int .u64 c33, .string c34, .slice pb lb kb, .bool c36, .string c37] rfl rfl 39 _ hR3 size39 rfl (by simp [Value.oneCell']) ?_
    have hR4 := setRow_heap w3 (w.heap.size + 1) _ #[.int .u8 c0, .string c1, .string c2, .int .u32 c3, .int .u16 c4, .int .u32 c5, .int .i64 c6, .int .u32 c7, .int .u32 c8, .int .u32 c9, .int .u32 c10, .string c11, .int .i64 c12, .bool c13, .int .u8 c14, .int .u8 c15, .string c16, .string c17, .slice pa la ka, .int .u32 c19, .int .i64 c20, .int .u32 c21, .bool c22, .bool c23, .int .i64 c24, .int .u32 c25, .string c26, .bool c27, .bool c28, .bool c29, .bool c30, .int .u8 c31, .int .u64 c32, .int .u64 c33, .string c34, .slice pb lb kb, .bool c36, .string c37] 39 (0, 0) hR3
    have hbel4 : Below w.heap.size w (w3.setRow (w.heap.size + 1) #[.int .u8 c0, .string c1, .string c2, .int .u32 c3, .int .u16 c4, .int .u32 c5, .int .i64 c6, .int .u32 c7, .int .u32 c8, .int .u32 c9, .int .u32 c10, .string c11, .int .i64 c12, .bool c13, .int .u8 c14, .int .u8 c15, .string c16, .string c17, .slice pa la ka, .int .u32 c19, .int .i64 c20, .int .u32 c21, .bool c22, .bool c23, .int .i64 c24, .int .u32 c25, .string c26, .bool c27, .bool c28, .bool c29, .bool c30, .int .u8 c31, .int .u64 c32, .int .u64 c33, .string c34, .slice pb lb kb, .bool c36, .string c37]) := below_setRow hbel3 (by omega) _
    generalize (w3.setRow (w.heap.size + 1) #[.int .u8 c0, .string c1, .string c2, .int .u32 c3, .int .u16 c4, .int .u32 c5, .int .i64 c6, .int .u32 c7, .int .u32 c8, .int .u32 c9, .int .u32 c10, .string c11, .int .i64 c12, .bool c13, .int .u8 c14, .int .u8 c15, .string c16, .string c17, .slice pa la ka, .int .u32 c19, .int .i64 c20, .int .u32 c21, .bool c22, .bool c23, .int .i64 c24, .int .u32 c25, .string c26, .bool c27, .bool c28, .bool c29, .bool c30, .int .u8 c31, .int .u64 c32, .int .u64 c33, .string c34, .slice pb lb kb, .bool c36, .string c37]) = w4 at hR4 hbel4 ⊢
    clear hB3 hR3 hbel3
    go_wp2
    refine bodyPost_ret (results_cell_row Tryz.results56 _ _ (w.heap.size + 1) 39 _ (0, 0) _ rfl hR4 Tryz.underlying39 rfl size39) rfl ?_
    exact ⟨_, _, _, _, _, _, rfl, hbel4⟩

end Go.Proofs.YtmkcndaidopkpaaGreatDoor
