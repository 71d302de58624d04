/- SessionNil: the call, in each world that the row speaks of. -/
import Derived.Test.YtmkcndaidopkpaaGreatDoorNW
import Derived.Test.YtmkcndaidopkpaaGreatDoorL24e
import Derived.Test.YtmkcndaidopkpaaGreatDoorNF
namespace Go.Proofs.YtmkcndaidopkpaaGreatDoor
open Go Go.Sx Go.ChangeShapes Go.WideShapes Go.ChangeAt Go.RowKit
/-- with what else a world is known to be, and how large what came in may be. -/
theorem returnsInHanded_shw {H : Type} {enc : TypeId × Value → H} {a : Assume} {C : Checked} {os : Os} {f : FuncId} {fn : Func} {s : ChangeSpec} {conds : List PathCond} {apart fresh handsOn again : Bool} {X : World → Array Value → Prop}
    (hX : ∀ (w w' : World) (args : Array Value), w.heap = w'.heap → X w args → X w' args)
    (own : ownKnob C.prog.godebug = none) (started : os.Started) (noInit : C.prog.inits.idxOf? f = none) (hfn : C.prog.funcs[f]? = some fn)
    (witness : ∃ (w : World) (tape : Tape) (i : Input), w.os = os ∧ (w.forCall tape i).Shaped C.prog ∧ i.vars = [] ∧ Input.okWide C.prog (w.forCall tape i) .any w.heap.size f i ∧
      ((s.pre enc C.prog fn conds apart (w.forCall tape i).memory i.args ∧ X (w.forCall tape i).memory i.args) ∧ sizedMet enc C.prog fn (OpenSpec.ofChange s) apart (w.forCall tape i).memory i.args) ∧ a.holds C.prog (lone (Frame.enter C.prog f i.args .normal) [] (w.forCall tape i)))
    (contract : ∀ (W : World) (base : Nat) (args : Array Value) (ds gs : List (DataW H)) (before : List MemPlace), W.ShapedOpen C.prog →
      (∀ (j : Nat) t v, fn.params[j]? = some t → args[j]? = some v → Value.okWide C.prog W .any base t v) →
      DataW.Whole enc C.prog fn.params.toList s.vars apart W args.toList ds gs before → X W args →
      (DataW.weightsEach C.prog (fn.params.toList ++ s.plain.varTypes C.prog) (ds ++ gs)).all (· ≤ reachBytes) = true →
      Calls C.prog f args W fun e W' => ∃ v, e = .returned v ∧ s.post enc C.prog fn apart fresh handsOn again W args v W') :
    ReturnsInHanded a C os f .any (fun w args => (s.pre enc C.prog fn conds apart w args ∧ X w args) ∧ sizedMet enc C.prog fn (OpenSpec.ofChange s) apart w args) (s.post enc C.prog fn apart fresh handsOn again) := by
  refine returnsInHanded_of_calls own started noInit witness ?_
  intro w tape i _ hsh _ hok hpre _
  obtain ⟨_, _, _, fn', hfn', _, _, _, _, hval⟩ := hok
  have e : fn' = fn := Option.some.inj (hfn'.symm.trans hfn)
  subst e
  obtain ⟨⟨⟨ds, gs, before, hw, hc⟩, hx⟩, hz⟩ := hpre
  have hw' := DataW.Whole.of_heap (w' := w.forCall tape i) (by rfl) hw
  refine (contract (w.forCall tape i) w.heap.size i.args ds gs before hsh hval hw' (hX _ _ _ (by rfl) hx) (hz.weights hw)).mono fun e W' ⟨v, he, hp⟩ => ?_
  subst he
  exact ChangeSpec.post_blind hp

theorem trodAll_one {H : Type} {enc : TypeId × Value → H} {P : Program} {W : World} {base : Nat} {sp : Nat → Bool} {held : Bool} {t : TypeId} : ∀ {vs : List Value} {ds : List (DataW H)} {p : List MemPlace}, DataW.TrodAll enc P W base sp held [t] vs ds p →
    ∃ v d, vs = [v] ∧ ds = [d] ∧ DataW.Trod enc P W base sp held t v d p := by
  intro vs ds p h
  rcases vs with _ | ⟨v, _ | ⟨v', vs⟩⟩ <;> rcases ds with _ | ⟨d, _ | ⟨d', ds⟩⟩ <;> simp [DataW.TrodAll] at h
  exact ⟨v, d, rfl, rfl, h⟩

def nilArgs : Array Value := #[.agg #[.int .i64 0, .int .i64 0, .int .u32 0, .string .empty, .bool false, .int .u8 0, .int .u64 0, .int .u64 0, .string .empty, .string .empty, .bool false, .bool false, .int .u8 0, .int .u64 0, .int .u64 0, .string .empty, .slice none 0 0, .int .u8 0, .string .empty, .string .empty, .int .u32 0, .int .u16 0, .int .u32 0, .int .i64 0, .int .u32 0, .int .u32 0, .int .u32 0, .int .u32 0, .string .empty, .int .i64 0, .bool false, .int .u8 0, .int .u8 0, .string .empty, .string .empty, .slice none 0 0, .int .u32 0, .int .i64 0, .int .u32 0, .bool false, .bool false, .int .i64 0, .int .u32 0, .string .empty, .bool false, .bool false, .bool false, .bool false, .int .u8 0, .int .u64 0, .int .u64 0, .string .empty, .slice none 0 0, .bool false, .string .empty]]
set_option maxRecDepth 100000 in
theorem nil_lifted (os : Os) (started : os.Started) (H : Type) (enc : TypeId × Value → H) :
    ReturnsInHanded {} Tryz.checked os 7 .any (fun w args => (Rows.sessionNilSpec.pre enc Tryz.prog Tryz.f7 [] false w args ∧ laidMetH Tryz.prog laid2 w) ∧ sizedMet enc Tryz.prog Tryz.f7 (OpenSpec.ofChange Rows.sessionNilSpec) false w args)
      (Rows.sessionNilSpec.post enc Tryz.prog Tryz.f7 false true false false) := by
  refine returnsInHanded_shw (C := Tryz.checked) (X := fun w _ => laidMetH Tryz.prog laid2 w) (fun _ _ _ hh h => h.of_heap hh) own24 started (by kernel_rfl) Tryz.func7
    (ChangeSpec.witness_shaped (enc := enc) (C := Tryz.checked) (os := os) (X := fun w _ => laidMetH Tryz.prog laid2 w) false (World.doorLaid Tryz.prog 600 os) nilArgs 8 rfl (door_shaped os _) (by kernel_rfl) (by kernel_rfl) (by kernel_rfl) (door_met os _)) ?_
  intro W base args ds gs before hsh hval0 hW hL hwt
  have hval : ∀ (j : Nat) t v, Tryz.f7.params[j]? = some t → args[j]? = some v → Value.okWide Tryz.prog W .any base t v := hval0
  have hW' := hW
  have hlt := hW.lt
  obtain ⟨p, q, hA0, hV, rfl, hfz, hnd⟩ := hW
  have hA : DataW.TrodAll enc Tryz.prog W 0 (fun _ => true) true Tryz.f7.params.toList args.toList ds p := hA0
  rw [Tryz.params7] at hA hval
  obtain ⟨v, d, hv, rfl, hd⟩ := trodAll_one hA
  obtain ⟨rfl, rfl⟩ := trodVars_none hV
  have hargs : args = #[v] := Array.eq_one_of_toList hv
  subst hargs
  have hwt' : ∀ m ∈ d.weights Tryz.prog 79, m ≤ reachBytes := fun m hm => by
    have h2 := List.all_eq_true.1 hwt m (weights_mem (ts := Tryz.f7.params.toList ++ _) (i := 0) (t := 79) (d := d) (by rw [Tryz.params7]; rfl) rfl hm)
    simpa using h2
  obtain ⟨c0, c1, c2, c3, c4, c5, c6, c7, c8, c9, c10, c11, c12, c13, c14, c15, p16, l16, k16, c17, c18, c19, c20, c21, c22, c23, c24, c25, c26, c27, c28, c29, c30, c31, c32, c33, c34, p35, l35, k35, c36, c37, c38, c39, c40, c41, c42, c43, c44, c45, c46, c47, c48, c49, c50, c51, p52, l52, k52, c53, c54, rfl, hm, hb, ho⟩ := op_arg (hval 0 79 _ rfl rfl) hd hwt'
  obtain ⟨φ, L⟩ := laid24 hsh hL
  refine (nil_any c0 c1 c2 c3 c4 c5 c6 c7 c8 c9 c10 c11 c12 c13 c14 c15 p16 l16 k16 c17 c18 c19 c20 c21 c22 c23 c24 c25 c26 c27 c28 c29 c30 c31 c32 c33 c34 p35 l35 k35 c36 c37 c38 c39 c40 c41 c42 c43 c44 c45 c46 c47 c48 c49 c50 c51 p52 l52 k52 c53 c54 W (fun w2 h2 => works_at L h2) hm hb ho).mono fun e W' ⟨he, hB⟩ => ?_
  subst he
  refine ⟨_, rfl, _, _, _, [], p, [], hW', ?_, ?_, ?_, kept_of hB.os hB.output (fun i hi => hB.block i hi) _, fun h => by cases h⟩
  · exact trodAll_mk1 (shut_bool Tryz.underlying4 true)
  · show DataW.TrodAll enc Tryz.prog W' 0 _ true Tryz.f7.params.toList _ _ _
    rw [Tryz.params7]
    refine trodAll_mk1 (WideElems.Trod_stays (sp' := fun b => decide (b < W.heap.size)) sessionNil_k1 (by kernel_rfl) (of_decide_eq_true (by kernel_rfl)) hd (fun x hx => ?_) (fun x hx => ?_))
    · have hlx := hlt x (List.mem_append_left _ hx)
      cases x with
      | cell b o => exact hB.cell (p := ⟨b, o, none⟩) hlx
      | map b => exact hB.block b hlx
    · have hlx := hlt x (List.mem_append_left _ hx)
      simpa using hlx
  · rfl
end Go.Proofs.YtmkcndaidopkpaaGreatDoor
