/- The laid heap of layer 24's program; what works() answers in each world that has it. -/
import Derived.Test.YtmkcndaidopkpaaGreatDoorProg
import Derived.KernelRfl
import Derived.Test.YtmkcndaidopkpaaGreatDoorSx27
namespace Go.Sx
open Go.Proofs
noncomputable section
def thrL : List Nat := [0, 0, 0, 18, 15, 79, 29, 12, 9, 5, 13, 8, 15, 23, 6, 4, 5, 53, 12, 4, 4, 4, 5, 7, 8, 110, 11, 9, 9, 7, 3, 6, 6, 4, 5, 4, 4, 1, 4, 7, 5, 4, 7, 13, 3, 1, 3, 4, 4, 3, 2, 8, 28, 8, 3, 122, 4, 7, 6, 18, 10, 8, 28, 7, 7, 4, 3, 5, 4, 1, 6, 3, 9, 3, 5, 8, 13, 5, 5, 2, 7, 3, 38, 31, 14, 2, 4, 13, 7, 6, 5, 5, 6, 13, 8, 8, 4, 5, 4, 3, 2, 4, 3, 2, 4, 3, 8, 4, 4, 7, 4, 3, 2, 4, 3, 5, 4, 3, 2, 3, 3, 2, 5, 5, 5, 3, 3, 3, 7, 3, 1, 3, 17, 9, 5, 31, 3, 6, 3, 5, 8, 3, 5, 39, 1, 1, 5, 3, 5, 5, 5, 3, 9, 9, 11, 31, 8, 5, 12, 3, 4, 5, 9, 7, 10, 15, 15, 3, 8, 5, 5, 1, 7, 5, 5, 7, 8, 12, 5, 5, 5, 3, 45, 33, 28, 3, 3, 2, 3, 5, 8, 9, 4, 8, 3, 2, 3, 2, 5, 11, 6, 8, 8, 3, 3, 2, 3, 14, 14, 5, 3, 5, 30, 3, 3, 30, 3, 7, 7, 8, 9, 5, 39, 3, 9, 6, 3, 9, 4, 5, 8, 21, 3, 8, 3, 30, 9, 7, 6, 4, 5, 4, 4, 30, 16, 7, 6, 3, 4, 5, 10, 13, 13, 61, 10, 13, 13, 14, 3, 3, 4, 8, 8, 9, 4, 18, 12, 3, 3, 9, 13, 10, 24, 10, 12, 7, 4, 7, 17, 49, 25, 21, 9, 9, 43, 59, 11, 3, 3, 3, 3, 3, 3, 3, 3, 5, 3, 1, 1, 1, 1, 1, 1, 1, 1, 1, 1, 1, 1, 1, 1, 1, 1, 3, 1, 1, 3, 5, 1, 3, 1, 1, 20, 37, 6, 38, 77, 5, 5, 3, 4, 4, 4, 9, 6, 3, 3, 58, 29, 4, 5, 8, 4, 5, 9, 7, 7, 7, 3, 5, 3, 5, 6, 5, 28, 5, 0, 0, 0, 0, 0]
def thr24 (f : Nat) : Nat := thrL.getD f 0
def codes24 : List (Nat × AV) := [(1, .int .u8 64), (3, .int .u8 80), (4, .int .u8 96), (7, .int .u8 81), (8, .int .u8 97), (11, .int .u8 114), (12, .int .u8 130), (13, .int .u8 115), (14, .int .u8 131), (15, .int .u8 152), (16, .int .u8 116), (17, .int .u8 132), (18, .int .u8 148)]
def fn (n : Nat) : AV := .func (.func n) [] []
def what24 : List (Nat × AV) := [(3, fn 322), (4, fn 324), (5, fn 325), (6, fn 326), (7, fn 323), (8, fn 327)]
def H24 : Hp := ((((⟨.leaf, kOf 4⟩ : Hp).put (kOf 2) (.tab .u8 codes24)).put (kOf 3) (.tab .u8 what24)).put (kOf 0) (.cells [.mapv (kOf 3)] false)).put (kOf 1) (.cells [.mapv (kOf 2)] false)
def ns24 : List K := [kOf 0, kOf 1, kOf 2, kOf 3]

theorem names24 : Tryz.prog.funcs.all (fun fn => !(fn.name == "runtime.NumGoroutine")) = true := by kernel_rfl
theorem fit24 : Fit Tryz.prog := ⟨fun f fn h => by
  have := Array.all_eq_true.1 names24 f (Array.getElem?_eq_some_iff.1 h).1
  rw [(Array.getElem?_eq_some_iff.1 h).2] at this
  simpa using this⟩
theorem globals24 : Tryz.prog.globals.size = 2 := by kernel_rfl

theorem get24 {x : K} {o : AObj} (h : H24.get x = some o) : (x = kOf 0 ∧ o = .cells [.mapv (kOf 3)] false) ∨ (x = kOf 1 ∧ o = .cells [.mapv (kOf 2)] false) ∨ (x = kOf 2 ∧ o = .tab .u8 codes24) ∨ (x = kOf 3 ∧ o = .tab .u8 what24) := by
  unfold H24 at h
  by_cases h1 : x = kOf 1
  · subst h1; rw [Hp.get_put_same] at h; cases h; exact .inr (.inl ⟨rfl, rfl⟩)
  rw [Hp.get_put_ne _ _ h1] at h
  by_cases h0 : x = kOf 0
  · subst h0; rw [Hp.get_put_same] at h; cases h; exact .inl ⟨rfl, rfl⟩
  rw [Hp.get_put_ne _ _ h0] at h
  by_cases h3 : x = kOf 3
  · subst h3; rw [Hp.get_put_same] at h; cases h; exact .inr (.inr (.inr ⟨rfl, rfl⟩))
  rw [Hp.get_put_ne _ _ h3] at h
  by_cases h2 : x = kOf 2
  · subst h2; rw [Hp.get_put_same] at h; cases h; exact .inr (.inr (.inl ⟨rfl, rfl⟩))
  rw [Hp.get_put_ne _ _ h2] at h
  have : (⟨.leaf, kOf 4⟩ : Hp).get x = none := by show Tr.get x .leaf = none; exact Tr.get_leaf x
  rw [this] at h; cases h
theorem next24 : H24.next.toNat = 4 := by
  show (kOf 4).toNat = 4
  exact kOf_toNat 4

theorem base24 : Base Tryz.prog H24 ns24 where
  names := fun x o h => by rcases get24 h with ⟨rfl, _⟩ | ⟨rfl, _⟩ | ⟨rfl, _⟩ | ⟨rfl, _⟩ <;> simp [ns24]
  lt := fun x h => by
    rw [next24]
    simp only [ns24, List.mem_cons, List.not_mem_nil, or_false] at h
    rcases h with rfl | rfl | rfl | rfl <;> rw [kOf_toNat] <;> decide
  objs := fun x o h => by
    rw [next24]
    rcases get24 h with ⟨_, rfl⟩ | ⟨_, rfl⟩ | ⟨_, rfl⟩ | ⟨_, rfl⟩ <;> rfl
  glob := by rw [next24, globals24]; decide

def okQ (q : AV → Hp → Bool) (r : Option Res) : Bool := match r with | some (.val v H) => q v H | _ => false
theorem okQ_ok {P : Program} {run : Job → Option Res} (rok : RecOk P run) {f : FuncId} {args : List AV} {H : Hp} {q : AV → Hp → Bool} (h : okQ q (run (.call f args H)) = true) : CallQ P f args H q := by
  unfold okQ at h
  split at h
  · rename_i v H' hr; exact (rok.call _ _ _ _ _ hr).q h
  · cases h
/-- the answer, and the laid variables as they were. -/
def ans24 (r : AV) (v : AV) (H' : Hp) : Bool := weak v r && sameAt H24 H' ns24

set_option maxRecDepth 1000000
theorem works_run : okQ (ans24 (.bool true)) (run Tryz.prog thr24 100000 (.call 13 [] H24)) = true := by kernel_rfl
theorem works_q : CallQ Tryz.prog 13 [] H24 (ans24 (.bool true)) := okQ_ok (run_ok fit24 thr24 100000) works_run
theorem works_ok {H : Hp} (h : sameAt H24 H ns24 = true) : CallOk Tryz.prog 13 [] H (.bool true) H :=
  frame_ok base24 works_q rfl rfl h
end
end Go.Sx
