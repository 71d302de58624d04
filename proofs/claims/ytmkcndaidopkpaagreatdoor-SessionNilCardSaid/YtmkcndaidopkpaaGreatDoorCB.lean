import Derived.Test.YtmkcndaidopkpaaGreatDoorKL
import Derived.OwnWalk
import Derived.Laws.AppendOwn
namespace Go.Proofs.YtmkcndaidopkpaaGreatDoor
open Go Go.ChangeShapes Go.WideShapes Go.ChangeAt Go.RowKit
theorem info5 : (Tryz.prog.info? 5).map (fun i => (i.zero, i.size, i.bytes)) = some (some (.int .u8 0), 1, 1) := by kernel_rfl
def SomeSl (w : World) (e : Ending) (w' : World) : Prop := ∃ (p : Option Addr) (l k : Nat), e = .returned (.slice p l k) ∧ Below w.heap.size w w'
theorem ownsRow_slice {w : World} {base E size n : Nat} {v : Value} {xs : List Value} (h : w.ownsRow base E size v n xs) : ∃ (p : Option Addr) (l k : Nat), v = .slice p l k := by
  obtain ⟨_, ⟨rfl, _⟩ | ⟨g, cap, cur, rfl, _⟩⟩ := h
  · exact ⟨_, _, _, rfl⟩
  · exact ⟨_, _, _, rfl⟩

set_option maxHeartbeats 1600000 in
set_option maxRecDepth 1000000 in
theorem copyBytes_any (b off len cap : Nat) (zs : List Int) (w : World) (hreach : len ≤ 140737488351232) (hz : len ≤ zs.length) (hb : b < w.heap.size)
    (hc : ∀ j, j < zs.length → w.cell? ⟨b, off + j, none⟩ = some (.int .u8 (zs.getD j 0))) :
    Calls Tryz.prog 91 #[.slice (some ⟨b, off, none⟩) len cap] w (SomeSl w) := by
  obtain ⟨i0, hi, hz0, hz1, hz2⟩ := info_parts info5
  have H := hc
  clear hc
  go_enter Tryz.func91, Tryz.ntmps91
  go_wp2_with (first | (at_make; refine wpList_make_own _ rfl _ _ 33 rfl w.heap.size 5 i0 (.int .u8 0) 1 Tryz.underlying33 hi hz0 hz1 _ _ _ len rfl rfl (by omega) ?b1 ?b2 ?b3 ?_) | fail)
  case b1 => rw [hz2]; omega
  case b2 => unfold maxLen; omega
  case b3 => exact Nat.le_refl _
  · intro w1 hown hgrow
    have hbel : Below w.heap.size w w1 := (Below.refl _ _).grown hgrow (Nat.le_refl _) (fun _ h => by cases h)
    clear hgrow
    go_wp2
    go_loopw [3, 4] (fun v i wr => ∃ k : Nat, k ≤ len ∧ i = .int .i64 k ∧ Below w.heap.size w wr ∧ ∃ xs : List Value, wr.ownsRow w.heap.size 5 1 v k xs) (fun _ i _ => len - (intOf i).toNat)
    case atStart => exact ⟨0, Nat.zero_le _, rfl, hbel, [], hown⟩
    case round =>
      clear hown hbel
      obtain ⟨k, hk, rfl, hbel, xs, hown⟩ := hrel
      have hcx : k < len → wr.cell? ⟨b, off + k, none⟩ = some (.int .u8 (zs.getD k 0)) := fun _ => (hbel.cell (by exact hb)).trans (H k (by omega))
      go_wp2_with (first
        | (at_builtin; refine wpList_append_own _ rfl _ _ 33 rfl w.heap.size 5 i0 (.int .u8 0) 1 1 Tryz.underlying33 hi hz0 hz1 hz2 rfl (by decide) _ _ _ rfl (hown.alloc _) ⟨wr.heap.size, 0, none⟩ 1 1 [.int .u8 (zs.getD k 0)] rfl rfl ?c1 ?c2 ?c3 ?c4 ?c5 ?_)
        | fail)
      case c1 =>
        intro j u hj
        match j, hj with
        | 0, hj => simp at hj; subst hj; simp [Addr.add]
      case c2 => intro u hu; simp at hu; subst hu; rfl
      case c3 => unfold maxLen; omega
      case c4 => omega
      case c5 => have := hbel.size; simp; omega
      · intro v' w1 hown' hgrow _
        have hlt : k < len := by assumption
        have hb2 : Below w.heap.size w w1 := (hbel.alloc hbel.size _).grown hgrow (by have := hbel.size; simp; omega) (fun j hj => by have := (hown.lt j hj).1; omega)
        clear hgrow hown hcx hbel
        go_wp2
        go_roundw
        case rel => exact ⟨k + 1, by omega, by simp, hb2, _, hown'⟩
        case measure => simp [intOf]; omega
      · obtain ⟨p, l, c, rfl⟩ := ownsRow_slice hown
        go_wp2
        go_ret
        exact ⟨p, l, c, rfl, hbel⟩

set_option maxHeartbeats 1600000 in
set_option maxRecDepth 1000000 in
theorem copyBytes_nil (w : World) : Calls Tryz.prog 91 #[.slice none 0 0] w (SomeSl w) := by
  obtain ⟨i0, hi, hz0, hz1, hz2⟩ := info_parts info5
  go_enter Tryz.func91, Tryz.ntmps91
  go_wp2_with (first | (at_make; refine wpList_make_own _ rfl _ _ 33 rfl w.heap.size 5 i0 (.int .u8 0) 1 Tryz.underlying33 hi hz0 hz1 _ _ _ 0 rfl rfl (by omega) ?b1 ?b2 ?b3 ?_) | fail)
  case b1 => rw [hz2]; omega
  case b2 => unfold maxLen; omega
  case b3 => exact Nat.le_refl _
  · intro w1 hown hgrow
    have hbel : Below w.heap.size w w1 := (Below.refl _ _).grown hgrow (Nat.le_refl _) (fun _ h => by cases h)
    clear hgrow hown
    go_wp2
    go_rounds 1
    go_ret
    exact ⟨_, _, _, rfl, hbel⟩

/-- a slice that came in and can be read. -/
def BytesOk (w : World) (p : Option Addr) (l k : Nat) : Prop :=
  (p = none ∧ l = 0 ∧ k = 0) ∨ ∃ (b off : Nat) (zs : List Int), p = some ⟨b, off, none⟩ ∧ b < w.heap.size ∧ l ≤ 140737488351232 ∧ l ≤ zs.length ∧ ∀ j, j < zs.length → w.cell? ⟨b, off + j, none⟩ = some (.int .u8 (zs.getD j 0))
theorem BytesOk.below {w w' : World} {p : Option Addr} {l k : Nat} (h : BytesOk w p l k) (hb : Below w.heap.size w w') : BytesOk w' p l k := by
  rcases h with h | ⟨b, off, zs, rfl, h1, h2, h3, h4⟩
  · exact .inl h
  · exact .inr ⟨b, off, zs, rfl, Nat.lt_of_lt_of_le h1 hb.size, h2, h3, fun j hj => (hb.cell (by exact h1)).trans (h4 j hj)⟩
theorem copyBytes_ok {w : World} {p : Option Addr} {l k : Nat} (h : BytesOk w p l k) : Calls Tryz.prog 91 #[.slice p l k] w (SomeSl w) := by
  rcases h with ⟨rfl, rfl, rfl⟩ | ⟨b, off, zs, rfl, h1, h2, h3, h4⟩
  · exact copyBytes_nil w
  · exact copyBytes_any b off l k zs w h2 h3 h1 h4

theorem info98 : (Tryz.prog.info? 98).map (fun i => (i.size, i.bytes)) = some (5, 56) := by kernel_rfl
end Go.Proofs.YtmkcndaidopkpaaGreatDoor
