import Derived.Test.YtmkcndaidopkpaaGreatDoorRows
import Derived.WalkKit
import Derived.ProofKit
import Derived.Below
import Derived.Handy
import Derived.Deep.MidRow
import Derived.Deep.WholeRow
namespace Go.Proofs.YtmkcndaidopkpaaGreatDoor
open Go Go.ChangeShapes Go.WideShapes Go.ChangeAt Go.RowKit

/-- cells out of a block that is known whole. -/
theorem load_cells {P : Program} {w : World} {b : Nat} {cs : Array Value} {t : TypeId} {fr : Nat × Nat} (hb : w.heap[b]? = some (.cells cs t fr)) (o n : Nat) (l : Array Value) (hl : l.size = n) (hc : ∀ j, j < n → cs[o + j]? = l[j]?) :
    (loadCellsFrom ⟨b, o, none⟩ 0 n #[]).run P w = .ok l w := by
  subst hl
  have := run_loadCells_list (P := P) w ⟨b, o, none⟩ l.toList (fun j v hv => by
    have hadd : (⟨b, o, none⟩ : Addr).add j = ⟨b, o + j, none⟩ := by unfold Addr.add; split <;> simp_all
    have hj : j < l.size := by
      have := (List.getElem?_eq_some_iff.1 hv).1
      simpa using this
    rw [hadd, cell_of_row _ _ (o + j) cs t fr hb, hc j hj]
    simpa using hv)
  simpa [loadCells] using this

theorem heap1 (w : World) (A : Obj) : (w.alloc A).heap[w.heap.size]? = some A := heap_alloc_last w A
theorem heap2 (w : World) (A B : Obj) : ((w.alloc A).alloc B).heap[w.heap.size]? = some A := by rw [Below.heap_alloc _ _ _ (by simp)]; exact heap1 w A
theorem heap3 (w : World) (A B C : Obj) : (((w.alloc A).alloc B).alloc C).heap[w.heap.size]? = some A := by rw [Below.heap_alloc _ _ _ (by simp; omega)]; exact heap2 w A B
theorem heap3b (w : World) (A B C : Obj) : (((w.alloc A).alloc B).alloc C).heap[w.heap.size + 1]? = some B := by rw [Below.heap_alloc _ _ _ (by simp)]; exact heap_alloc2_new w A B
theorem heap3c (w : World) (A B C : Obj) : (((w.alloc A).alloc B).alloc C).heap[w.heap.size + 1 + 1]? = some C := by
  have h := heap_alloc2_new (w.alloc A) B C
  simpa using h
theorem frozen_of_row {w : World} {b o : Nat} {c : Array Value} {t : TypeId} (h : w.heap[b]? = some (.cells c t (0, 0))) : w.frozen? ⟨b, o, none⟩ = false := by simp [World.frozen?, h]
theorem rangeAt_of {w : World} {b : Nat} {cs : Array Value} {t : TypeId} {fr : Nat × Nat} (hb : w.heap[b]? = some (.cells cs t fr)) (o : Nat) (l : List Value) (hl : (cs.toList.drop o).take l.length = l) : w.rangeAt b o l := fun j v hv => by
  have h1 : (cs.toList.drop o)[j]? = some v := by
    rw [← hl, List.getElem?_take] at hv
    split at hv
    · exact hv
    · cases hv
  rw [cell_of_row _ _ (o + j) cs t fr hb]
  simpa [List.getElem?_drop] using h1
theorem wp_load_part {P : Program} {o : Oper} {a : Act} {w : World} {K : Act → World → Prop} {Q : Exit → Act → World → Prop} (ty : TypeId) (x : Operand) (ho : o.op = .load ty x) (b off : Nat)
    (hx : a.eval x = .pointer (some ⟨b, off, none⟩)) (l : Array Value) (hrun : (loadVar ty ⟨b, off, none⟩).run P w = .ok (.agg l) w) (h : K (a.put o.dst (.agg l)) w) : o.wp P a w K Q := by
  unfold Oper.wp execOp
  simp only [ho, hx, Instr.loadAt, Instr.sureAddr, Sem.run_bind, Sem.run_pure, Result.andThen_ok, hrun]
  exact h
theorem wpList_load_part {P : Program} {ops : Array Oper} {rest : List Oper} {op : Oper} {a : Act} {w : World} {Q : Exit → Act → World → Prop} (hgd : op.guard = none) (ty : TypeId) (x : Operand) (ho : op.op = .load ty x) (b off : Nat)
    (hx : a.eval x = .pointer (some ⟨b, off, none⟩)) (l : Array Value) (hrun : (loadVar ty ⟨b, off, none⟩).run P w = .ok (.agg l) w) (h : wpList P ops Q rest (a.put op.dst (.agg l)) w) : wpList P ops Q (op :: rest) a w :=
  wpList_plain hgd fun _ hK => wp_load_part ty x ho b off hx l hrun (hK _ _ h)
theorem run_part {P : Program} {w : World} {b : Nat} {cs : Array Value} {t ty : TypeId} {fr : Nat × Nat} {d : TypeDesc} (hb : w.heap[b]? = some (.cells cs t fr)) (o : Nat) (l : Array Value) (hl : (cs.toList.drop o).take l.toList.length = l.toList)
    (hu : P.underlying ty = some d) (hd : d.isRow = true) (hi : (P.info? ty).map (·.size) = some l.toList.length) : (loadVar ty ⟨b, o, none⟩).run P w = .ok (.agg l) w := by
  have := run_loadVar_mid w b o ty l.toList d (rangeAt_of hb o l.toList hl) hu hd hi
  simpa using this
theorem bcell {W w1 : World} (hb : Below W.heap.size W w1) : (∀ b o, b < W.heap.size → w1.cell? ⟨b, o, none⟩ = W.cell? ⟨b, o, none⟩) ∧ (∀ b o, b < W.heap.size → w1.frozen? ⟨b, o, none⟩ = W.frozen? ⟨b, o, none⟩) :=
  ⟨fun b o h => hb.cell (p := ⟨b, o, none⟩) h, fun b o h => hb.frozen (p := ⟨b, o, none⟩) h⟩
end Go.Proofs.YtmkcndaidopkpaaGreatDoor
