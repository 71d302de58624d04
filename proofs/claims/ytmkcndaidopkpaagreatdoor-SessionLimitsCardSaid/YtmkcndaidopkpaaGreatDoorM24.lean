/- The table of answered calls of layer 24: works(), perform.Put. -/
import Derived.Test.YtmkcndaidopkpaaGreatDoorP24a
import Derived.Test.YtmkcndaidopkpaaGreatDoorP24b
import Derived.Test.YtmkcndaidopkpaaGreatDoorP24c
import Derived.Test.YtmkcndaidopkpaaGreatDoorP24d
namespace Go.Sx
open Go.Proofs
noncomputable section
def putKeys : List (Nat × Bool) := [(97, false), (97, true), (98, false), (98, true), (99, false), (99, true), (100, false), (100, true), (101, false), (101, true), (102, false), (102, true), (103, false), (103, true), (104, false), (104, true), (122, false), (110, true)]
theorem put_runs : ∀ q ∈ putKeys, okQ okPut (run Tryz.prog thr24 100000 (.call 31 [att [q.1] q.2] H24)) = true := by
  intro q hq
  simp only [putKeys, List.mem_cons, List.not_mem_nil, or_false] at hq
  rcases hq with rfl | rfl | rfl | rfl | rfl | rfl | rfl | rfl | rfl | rfl | rfl | rfl | rfl | rfl | rfl | rfl | rfl | rfl
  · exact put_97_false
  · exact put_97_true
  · exact put_98_false
  · exact put_98_true
  · exact put_99_false
  · exact put_99_true
  · exact put_100_false
  · exact put_100_true
  · exact put_101_false
  · exact put_101_true
  · exact put_102_false
  · exact put_102_true
  · exact put_103_false
  · exact put_103_true
  · exact put_104_false
  · exact put_104_true
  · exact put_122_false
  · exact put_110_true

def putIn (c : Nat) (b : Bool) : List (Nat × Bool) → Bool
  | [] => false
  | (d, e) :: r => match Nat.beq d c, sameB e b with | true, true => true | _, _ => putIn c b r
theorem putIn_mem {c : Nat} {b : Bool} : ∀ {l : List (Nat × Bool)}, putIn c b l = true → (c, b) ∈ l
  | [], h => by cases h
  | (d, e) :: r, h => by
    simp only [putIn] at h
    split at h
    · rename_i h1 h2
      rw [beq_nat] at h1
      rw [sameB_eq] at h2
      have h1 := of_decide_eq_true h1
      have h2 := eq_of_beq h2
      subst h1; subst h2
      simp
    · exact List.mem_cons_of_mem _ (putIn_mem h)
/-- the name and the role of an Attach that the table has. -/
def attKey (l : List AV) : Option (Nat × Bool) :=
  match nth l 11, nth l 13 with
  | some (.str [c]), some (.bool b) => some (c, b)
  | _, _ => none
def memPut (args : List AV) (H : Hp) : Option AV :=
  match args with
  | [.agg l] => (match attKey l with
    | some (c, b) => (match putIn c b putKeys with
      | true => (match eqAV (.agg l) (att [c] b) with
        | true => (match sameAt H24 H ns24 with | true => some (.tup [.agg [.any, .any, .any, .any], .int .i64 0]) | false => none)
        | false => none)
      | false => none)
    | none => none)
  | _ => none
def mem24 (f : FuncId) (args : List AV) (H : Hp) : Option AV :=
  match Nat.beq f 13 with
  | true => (match args, sameAt H24 H ns24 with
    | [], true => some (.bool true)
    | _, _ => none)
  | false => match Nat.beq f 31 with
    | true => memPut args H
    | false => none
theorem att_small : ∀ q ∈ putKeys, smalls H24.next.toNat [att [q.1] q.2] = true := by
  intro q hq
  rw [next24]
  simp only [putKeys, List.mem_cons, List.not_mem_nil, or_false] at hq
  rcases hq with rfl | rfl | rfl | rfl | rfl | rfl | rfl | rfl | rfl | rfl | rfl | rfl | rfl | rfl | rfl | rfl | rfl | rfl <;> kernel_rfl
theorem put_ok {q : Nat × Bool} (hq : q ∈ putKeys) {H : Hp} (h : sameAt H24 H ns24 = true) : CallOk Tryz.prog 31 [att [q.1] q.2] H (.tup [.agg [.any, .any, .any, .any], .int .i64 0]) H :=
  frame_ok base24 (okQ_ok (run_ok fit24 thr24 100000) (put_runs q hq)) rfl (att_small q hq) h
theorem mem24_ok : MemOk Tryz.prog mem24 := by
  intro f args H v h
  unfold mem24 at h
  split at h
  · rename_i hf
    rw [beq_nat] at hf
    have hf := of_decide_eq_true hf
    subst hf
    split at h
    · rename_i hs
      cases h
      exact works_ok hs
    · cases h
  · split at h
    · rename_i hf
      rw [beq_nat] at hf
      have hf := of_decide_eq_true hf
      subst hf
      unfold memPut at h
      split at h
      · rename_i l
        split at h
        · rename_i c b hk
          split at h
          · rename_i hin
            split at h
            · rename_i he
              split at h
              · rename_i hs
                cases h
                rw [eqAV_eq he]
                exact put_ok (q := (c, b)) (putIn_mem hin) hs
              · cases h
            · cases h
          · cases h
        · cases h
      · cases h
    · cases h
def run24 : Job → Option Res := runM Tryz.prog thr24 mem24 100000
theorem run24_ok : RecOk Tryz.prog run24 := runM_ok fit24 thr24 mem24_ok 100000
def isTrue (v : AV) (H' : Hp) : Bool := ans24 (.bool true) v H'
def law24 (f : FuncId) (sp : List Nat) (args : List AV) : Bool := forkCall Tryz.prog thr24 sp run24 100000 f args H24 isTrue
theorem law24_ok {f : FuncId} {sp : List Nat} {args : List AV} (h : law24 f sp args = true) : CallQ Tryz.prog f args H24 isTrue := forkCall_ok run24_ok h
def from_ (lo : Nat) : AV := .rng .u32 lo 4294967295 1 0
def u32 (n : Nat) : AV := .int .u32 (.ofNat n)
end
end Go.Sx
