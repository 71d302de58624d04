/- From what is laid when a call begins to the machine's heap; what a law's runs say of its call. -/
import Derived.Test.YtmkcndaidopkpaaGreatDoorW24
import Derived.Test.YtmkcndaidopkpaaGreatDoorRows
import Derived.ProofKit
import Derived.LaidMore
import Derived.LaidHandle
import Derived.WideKeyElems2
import Derived.WideKeyArgs2
import Derived.Stop.Joined
import Derived.Maps.RangeWalk
namespace Go.Sx
open Go.Proofs Go.Proofs.YtmkcndaidopkpaaGreatDoor Go.ChangeShapes Go.WideShapes
noncomputable section

/-- with what else a world is known to be: its variables as their types say. -/
theorem returnsInHanded_sh {H : Type} {enc : TypeId × Value → H} {a : Assume} {C : Checked} {os : Os} {f : FuncId} {fn : Func} {s : ChangeSpec} {conds : List PathCond} {apart fresh handsOn again : Bool} {X : World → Array Value → Prop}
    (hX : ∀ (w w' : World) (args : Array Value), w.heap = w'.heap → X w args → X w' args)
    (own : ownKnob C.prog.godebug = none) (started : os.Started) (noInit : C.prog.inits.idxOf? f = none) (hfn : C.prog.funcs[f]? = some fn)
    (witness : ∃ (w : World) (tape : Tape) (i : Input), w.os = os ∧ (w.forCall tape i).Shaped C.prog ∧ i.vars = [] ∧ Input.okWide C.prog (w.forCall tape i) .any w.heap.size f i ∧
      ((s.pre enc C.prog fn conds apart (w.forCall tape i).memory i.args ∧ X (w.forCall tape i).memory i.args) ∧ sizedMet enc C.prog fn (OpenSpec.ofChange s) apart (w.forCall tape i).memory i.args) ∧ a.holds C.prog (lone (Frame.enter C.prog f i.args .normal) [] (w.forCall tape i)))
    (contract : ∀ (W : World) (base : Nat) (args : Array Value) (ds gs : List (DataW H)) (before : List MemPlace), W.ShapedOpen C.prog →
      (∀ (j : Nat) t v, fn.params[j]? = some t → args[j]? = some v → Value.okWide C.prog W .any base t v) →
      DataW.Whole enc C.prog fn.params.toList s.vars apart W args.toList ds gs before → X W args →
      Calls C.prog f args W fun e W' => ∃ v, e = .returned v ∧ s.post enc C.prog fn apart fresh handsOn again W args v W') :
    ReturnsInHanded a C os f .any (fun w args => (s.pre enc C.prog fn conds apart w args ∧ X w args) ∧ sizedMet enc C.prog fn (OpenSpec.ofChange s) apart w args) (s.post enc C.prog fn apart fresh handsOn again) := by
  refine returnsInHanded_of_calls own started noInit witness ?_
  intro w tape i _ hsh _ hok hpre _
  obtain ⟨_, _, _, fn', hfn', _, _, _, _, hval⟩ := hok
  have e : fn' = fn := Option.some.inj (hfn'.symm.trans hfn)
  subst e
  obtain ⟨⟨⟨ds, gs, before, hw, hc⟩, hx⟩, hz⟩ := hpre
  have hw' := DataW.Whole.of_heap (w' := w.forCall tape i) (by rfl) hw
  refine (contract (w.forCall tape i) w.heap.size i.args ds gs before hsh hval hw' (hX _ _ _ (by rfl) hx)).mono fun e W' ⟨v, he, hp⟩ => ?_
  subst he
  exact ChangeSpec.post_blind hp

/-! ## a map that is laid is a table -/
theorem tab_facts {H : Type} {enc : TypeId × Value → H} {P : Program} {W : World} {φ : Em} {base n : Nat} {sp : Nat → Bool} {held : Bool} {k e : TypeId} {kd : IntKind} {es : Array MapEntry} {clock : Nat} {D : List (Lit × DataW H)} {l : List (Nat × AV)} {dat : AV → DataW H}
    (hk : P.underlying k = some (.int kd)) (F : WideElems.Fit P k (WideElems.elemAt enc P W base sp held n e) es clock)
    (hD : D = (es.toList.map (WideElems.rg P k (WideElems.elemAt enc P W base sp held n e))).foldr DataW.insert []) (hl : D = l.map fun q => (.int kd (.ofNat q.1), dat q.2))
    (hv : ∀ q ∈ l, ∀ v z, WideElems.elemAt enc P W base sp held n e v = some z → z.1 = dat q.2 → VRel φ q.2 v) :
    (∀ x ∈ es.toList, ∃ q ∈ l, x.key = .int kd (.ofNat q.1) ∧ VRel φ q.2 x.val) ∧ (∀ q ∈ l, ∃ x ∈ es.toList, x.key = .int kd (.ofNat q.1)) := by
  refine ⟨fun x hx => ?_, fun q hq => ?_⟩
  · obtain ⟨y, hy⟩ := F.reads x hx
    have hm : y ∈ D := by
      rw [hD, (sorted_perm _).mem_iff, List.mem_map]
      exact ⟨x, hx, WideElems.rg_of hy⟩
    rw [hl, List.mem_map] at hm
    obtain ⟨q, hq, rfl⟩ := hm
    have h1 := WideElems.rd_key hy
    obtain ⟨z, hz, hz2⟩ := WideElems.rd_val hy
    refine ⟨q, hq, ?_, hv q hq x.val z hz hz2.symm⟩
    obtain ⟨m, g1, g2, _⟩ := Maps.keyOf_int_inv hk h1
    injection g2 with _ g2
    rw [g1, ← g2]
  · have hm : ((.int kd (.ofNat q.1) : Lit), dat q.2) ∈ D := by
      rw [hl, List.mem_map]
      exact ⟨q, hq, rfl⟩
    rw [hD, (sorted_perm _).mem_iff, List.mem_map] at hm
    obtain ⟨x, hx, hxy⟩ := hm
    obtain ⟨y, hy⟩ := F.reads x hx
    rw [WideElems.rg_of hy] at hxy
    subst hxy
    have h1 := WideElems.rd_key hy
    refine ⟨x, hx, ?_⟩
    obtain ⟨m, g1, g2, _⟩ := Maps.keyOf_int_inv hk h1
    injection g2 with _ g2
    rw [g1, ← g2]

end
end Go.Sx
