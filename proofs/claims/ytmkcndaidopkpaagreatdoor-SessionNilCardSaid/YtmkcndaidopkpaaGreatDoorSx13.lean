/- Every operation: what the machine answers is what the model does. -/
import Derived.Test.YtmkcndaidopkpaaGreatDoorSx12
namespace Go.Sx
noncomputable section
variable {P : Program} {φ : Em} {H : Hp} {w : World}

/-- What is to be known of a program. -/
structure Fit (P : Program) : Prop where
  plain : ∀ (f : Nat) (fn : Func), P.funcs[f]? = some fn → (fn.name == "runtime.NumGoroutine") = false

/-! ## operations that look at nothing beside their operands -/
theorem bin_pure {op : BinOp} {x y : Operand} {t : TypeId} {a b res : AV} {u v : Value} (h1 : op ≠ .eql) (h2 : op ≠ .neq) (ha : VRel φ a u) (hb : VRel φ b v) (h : xbin P H op t x y a b = some res) (w : World) :
    ∃ q, (do eqGuard op t x y u v; binOp op t u v : Sem Value).run P w = .ok q w ∧ VRel φ res q := by
  unfold xbin at h
  split at h
  · rename_i k m k' n
    have := rel_int ha; subst this
    have := rel_int hb; subst this
    simp only [Sem.run_bind, eqGuard_quiet (.inl ⟨_, _, rfl⟩), Result.andThen_ok]
    split at h
    · rename_i hs
      exact shift_rel hs h t w
    · rename_i hs
      have hI : iBin (intFn op) (.int k m) (.int k' n) = (match Nat.beq (kNat k) (kNat k') with | true => intFn op k m n | false => none) := rfl
      rw [hI] at h
      split at h
      · rename_i hk
        have := kNat_inj hk; subst this
        exact intFn_rel hs h t w
      · cases h
  · rename_i m n
    obtain ⟨s, rfl, rfl⟩ := rel_str ha
    obtain ⟨s', rfl, rfl⟩ := rel_str hb
    simp only [Sem.run_bind, eqGuard_quiet (.inr (.inl ⟨_, rfl⟩)), Result.andThen_ok]
    exact strOp_rel h t w
  · rename_i k m k' n
    split at h
    · rename_i hk _
      subst hk
      cases ha; cases hb
      simp only [Sem.run_bind, eqGuard_quiet (.inr (.inr ⟨_, _, rfl⟩)), Result.andThen_ok]
      exact floatOp_rel h t w
    · cases h
  · cases hrng : rngBin op a b with
    | some c =>
      rw [hrng] at h
      have h := Option.some.inj h
      obtain ⟨k, m, n, d, rfl, rfl, hs, hd, hr⟩ := rngBin_rel ha hb hrng
      simp only [Sem.run_bind, eqGuard_quiet (.inl ⟨_, _, rfl⟩), Result.andThen_ok]
      obtain ⟨q, hq, hqr⟩ := intFn_rel (P := P) (φ := φ) hs hd t w
      exact ⟨q, hq, h ▸ hr q hqr⟩
    | none =>
      rw [hrng] at h
      cases op <;> first | exact absurd rfl h1 | exact absurd rfl h2 | cases h

theorem conv_pure {src dst : TypeId} {a : AV} {v : Value} {x : XR} (hd : (match P.underlying dst with | some (.int _) | some (.float _) | some (.complex _) => true | _ => false) = true) (ha : VRel φ a v) (h : xconvert P H src dst a = some x) (w : World) :
    ∃ b u, x = .val b ∧ (convert src dst v).run P w = .ok u w ∧ VRel φ b u := by
  unfold xconvert at h
  split at h
  · rename_i d k k' n hs hd
    cases h
    have := rel_int ha; subst this
    refine ⟨_, .int k (k.wrap n), rfl, ?_, by rw [wrap_eq]; exact .int _ _⟩
    simp only [convert, Sem.run_bind, run_uty hs, run_uty hd, Result.andThen_ok]; rfl
  · rename_i d k s lo hi m r hs hd
    split at h
    · rename_i b hb
      cases h
      obtain ⟨x, ⟨s', e⟩, h1⟩ := convR_rel ha hb
      subst e
      refine ⟨b, .int k (k.wrap (.ofNat x)), rfl, ?_, h1⟩
      simp only [convert, Sem.run_bind, run_uty hs, run_uty hd, Result.andThen_ok]; rfl
    · cases h
  · rename_i d k k' n hs hd
    cases h
    have := rel_int ha; subst this
    refine ⟨_, .float k (k.nearest n), rfl, ?_, .float _ _⟩
    simp only [convert, Sem.run_bind, run_uty hs, run_uty hd, Result.andThen_ok]; rfl
  · rename_i d k s p q hs hd
    split at h
    · rename_i hk _
      subst hk
      cases h; cases ha
      refine ⟨_, .complex k p q, rfl, ?_, .complex _ _ _⟩
      simp only [convert, Sem.run_bind, run_uty hs, run_uty hd, Result.andThen_ok]
      simp [Conv.complexToComplex, Conv.floatToFloat]
    · cases h
  · rename_i hd'; rw [hd'] at hd; cases hd
  · rename_i hd'; rw [hd'] at hd; cases hd
  · rename_i hd'; rw [hd'] at hd; cases hd
  · rename_i hd' _; rw [hd'] at hd; cases hd
  · cases h

theorem pairs_get {ρ : Operand → AV} {ρ' : Operand → Value} (hρ : ∀ y, VRel φ (ρ y) (ρ' y)) (ps : Array (Nat × Operand)) :
    (ps.toList.map fun p => (p.1, ρ p.2)).length = (ps.map fun (i, x) => (i, ρ' x)).toList.length ∧
    ∀ (k : Nat) (i : Nat) (a : AV), (ps.toList.map fun p => (p.1, ρ p.2))[k]? = some (i, a) → ∃ v, (ps.map fun (i, x) => (i, ρ' x)).toList[k]? = some (i, v) ∧ VRel φ a v := by
  refine ⟨by simp, fun k i a h => ?_⟩
  simp only [List.getElem?_map, Option.map_eq_some_iff] at h
  obtain ⟨p, hp, e⟩ := h
  cases e
  exact ⟨ρ' p.2, by simp [List.getElem?_map, hp], hρ p.2⟩

theorem list_map_rel {ρ : Operand → AV} {ρ' : Operand → Value} (hρ : ∀ y, VRel φ (ρ y) (ρ' y)) (xs : Array Operand) : VRels φ (xs.toList.map ρ) (xs.map ρ').toList := by
  rw [Array.toList_map]; exact VRels.map fun x _ => hρ x

/-- what an operation that looks at nothing gives. -/
def PureRes (P : Program) (φ : Em) (s : Sem Next) (x : XR) : Prop := ∃ v, x = .val v ∧ ∀ w : World, ∃ v', s.run P w = .ok (.value v') w ∧ VRel φ v v'

theorem pure_of {s : Sem Value} {o : Option AV} {x : XR} (h : okV o = some x) (k : ∀ v, o = some v → ∀ w : World, ∃ v', s.run P w = .ok v' w ∧ VRel φ v v') : PureRes P φ (do pure (.value (← s))) x := by
  obtain ⟨v, hv, rfl⟩ := okV_some h
  refine ⟨v, rfl, fun w => ?_⟩
  obtain ⟨v', h1, h2⟩ := k v hv w
  exact ⟨v', by simp [h1], h2⟩

theorem args0 {a : AV} {l : List AV} {args : Array Value} (h : VRels φ (a :: l) args.toList) : ∃ v vs, args.toList = v :: vs ∧ args[0]? = some v ∧ VRel φ a v ∧ VRels φ l vs := by
  generalize hv : args.toList = vs at h
  cases h with
  | cons _ v _ vs h1 h2 => exact ⟨v, vs, rfl, by rw [← Array.getElem?_toList, hv]; rfl, h1, h2⟩
theorem args1 {a b : AV} {l : List AV} {args : Array Value} (h : VRels φ (a :: b :: l) args.toList) : ∃ v u, args[0]? = some v ∧ args[1]? = some u ∧ VRel φ a v ∧ VRel φ b u := by
  generalize hv : args.toList = vs at h
  cases h with
  | cons _ v _ vs h1 h2 =>
    cases h2 with
    | cons _ u _ us h3 h4 => exact ⟨v, u, by rw [← Array.getElem?_toList, hv]; rfl, by rw [← Array.getElem?_toList, hv]; rfl, h1, h3⟩
theorem types0 {t : TypeId} {l : List TypeId} {ts : Array TypeId} (h : ts.toList = t :: l) : ts[0]? = some t := by rw [← Array.getElem?_toList, h]; rfl
theorem types1 {t u : TypeId} {l : List TypeId} {ts : Array TypeId} (h : ts.toList = t :: u :: l) : ts[1]? = some u := by rw [← Array.getElem?_toList, h]; rfl

def isPureB : Builtin → Bool
  | .cap | .min | .max | .complex | .real | .imag => true
  | _ => false

theorem builtin_pure {b : Builtin} (hb : isPureB b = true) {ts : Array TypeId} {type : TypeId} {consts : Array Bool} {args : Array Value} {l : List AV} {r : XR} (hl : VRels φ l args.toList) (h : xbuiltin P H b ts.toList l = some r) :
    PureRes P φ (builtin b ts type consts args) r := by
  have fold : ∀ lt : Bool, (∃ a rr, l = a :: rr ∧ okV (xfold lt a rr) = some r) → PureRes P φ (do pure (.value (← (match args.toList with
      | [] => stuck (match lt with | true => "min: at least one argument expected" | false => "max: at least one argument expected")
      | x :: rest => rest.foldlM (fun u v => (match lt with | true => Builtin.min2 u v | false => Builtin.max2 u v : Sem Value)) x : Sem Value)))) r := by
    rintro lt ⟨a, rr, e0, h5⟩
    rw [e0] at hl
    obtain ⟨v, vs, e, _, h1, h2⟩ := args0 hl
    rw [e]
    cases lt with
    | true => exact pure_of h5 fun q hq w => by have := fold_rel (P := P) (lt := true) h1 h2 hq w; exact this
    | false => exact pure_of h5 fun q hq w => by have := fold_rel (P := P) (lt := false) h1 h2 hq w; exact this
  cases b <;> simp only [isPureB, Bool.false_eq_true] at hb <;> simp only [builtin]
  case cap =>
    cases hts : ts.toList with
    | nil => rw [hts] at h; cases l <;> cases h
    | cons t tr =>
      rw [hts] at h
      cases l with
      | nil => cases h
      | cons a rr =>
        obtain ⟨v, vs, e, h0, h1, h2⟩ := args0 hl
        exact pure_of (o := xcap P t a) h fun q hq w => cap_rel h1 hq (types0 hts) h0 w
  case min =>
    cases l with
    | nil => cases ts.toList <;> cases h
    | cons a rr =>
      have h' : okV (xfold true a rr) = some r := by cases ts.toList <;> exact h
      exact fold true ⟨a, rr, rfl, h'⟩
  case max =>
    cases l with
    | nil => cases ts.toList <;> cases h
    | cons a rr =>
      have h' : okV (xfold false a rr) = some r := by cases ts.toList <;> exact h
      exact fold false ⟨a, rr, rfl, h'⟩
  case complex =>
    have : ∃ k a k' b, l = [.float k a, .float k' b] ∧ (match decEq k k' with | .isTrue _ => some (XR.val (.complex k a b)) | .isFalse _ => none) = some r := by
      unfold xbuiltin at h
      split at h <;> first | (rename_i e _ _; cases e; done) | (rename_i e _; cases e; done) | (rename_i e; cases e; done) | skip
      all_goals first | exact ⟨_, _, _, _, rfl, h⟩ | cases h
    obtain ⟨k, m, k', n, rfl, h6⟩ := this
    split at h6
    · rename_i hk _
      subst hk
      cases h6
      obtain ⟨v, vs, e, _, h1, h2⟩ := args0 hl
      cases h1
      cases h2 with
      | cons _ u _ us h3 h4 =>
        cases h3; cases h4
        have : args = #[.float k m, .float k n] := Array.toList_inj.1 e
        subst this
        have hc : (Builtin.complex_ ts type #[.float k m, .float k n]) = pure (.complex k m n) := by
          cases k <;> rfl
        exact ⟨_, rfl, fun w => ⟨.complex k m n, by rw [hc]; rfl, .complex _ _ _⟩⟩
    · cases h6
  case real =>
    have : ∃ k a b, l = [.complex k a b] ∧ some (XR.val (.float k a)) = some r := by
      unfold xbuiltin at h
      split at h <;> first | (rename_i e _ _; cases e; done) | (rename_i e _; cases e; done) | (rename_i e; cases e; done) | skip
      all_goals first | exact ⟨_, _, _, rfl, h⟩ | cases h
    obtain ⟨k, m, n, rfl, h6⟩ := this
    cases h6
    obtain ⟨v, vs, e, _, h1, h2⟩ := args0 hl
    cases h1; cases h2
    have : args = #[.complex k m n] := Array.toList_inj.1 e
    subst this
    exact ⟨_, rfl, fun w => ⟨.float k m, rfl, .float _ _⟩⟩
  case imag =>
    have : ∃ k a b, l = [.complex k a b] ∧ some (XR.val (.float k b)) = some r := by
      unfold xbuiltin at h
      split at h <;> first | (rename_i e _ _; cases e; done) | (rename_i e _; cases e; done) | (rename_i e; cases e; done) | skip
      all_goals first | exact ⟨_, _, _, rfl, h⟩ | cases h
    obtain ⟨k, m, n, rfl, h6⟩ := this
    cases h6
    obtain ⟨v, vs, e, _, h1, h2⟩ := args0 hl
    cases h1; cases h2
    have : args = #[.complex k m n] := Array.toList_inj.1 e
    subst this
    exact ⟨_, rfl, fun w => ⟨.float k n, rfl, .float _ _⟩⟩

theorem pure_rel {ρ : Operand → AV} {ρ' : Operand → Value} (hρ : ∀ y, VRel φ (ρ y) (ρ' y)) {o : Oper} {x : K} {r : XR} (hk : kindOf P o.op = .pure) (h : xop P ρ H x o.op = some r) : PureRes P φ (execOp ρ' o) r := by
  obtain ⟨dst, op, type, pos, after, guard⟩ := o
  cases op <;> simp only [xop] at h <;> simp only [kindOf, reduceCtorEq] at hk <;> simp only [execOp]
  case move a => cases h; exact ⟨_, rfl, fun w => ⟨_, rfl, hρ a⟩⟩
  case assign a => cases h; exact ⟨_, rfl, fun w => ⟨_, rfl, hρ a⟩⟩
  case pick c a b =>
    split at h
    · rename_i hb
      have hb := asBool_some hb
      have hc := hρ c; rw [hb] at hc
      cases h
      exact ⟨_, rfl, fun w => ⟨_, by rw [rel_bool hc]; rfl, hρ a⟩⟩
    · rename_i hb
      have hb := asBool_some hb
      have hc := hρ c; rw [hb] at hc
      cases h
      exact ⟨_, rfl, fun w => ⟨_, by rw [rel_bool hc]; rfl, hρ b⟩⟩
    · cases h
  case build t ps =>
    obtain ⟨h1, h2⟩ := pairs_get hρ ps
    exact pure_of h fun v hv w => build_rel h1 h2 hv w
  case nilCheck a =>
    obtain ⟨v, hv, rfl⟩ := okV_some h
    unfold nilC at hv
    split at hv
    · rename_i y o hy
      have hy := asPtr_some hy
      cases hv
      have ha := hρ a; rw [hy] at ha
      obtain ⟨p, hp, e⟩ := rel_ptr ha
      exact ⟨_, rfl, fun w => ⟨_, by rw [e]; rfl, .ptr y o p hp⟩⟩
    · cases hv
  case binOp op t a b yt =>
    obtain ⟨v, hv, rfl⟩ := okV_some h
    refine ⟨v, rfl, fun w => ?_⟩
    have n1 : op ≠ .eql := by rintro rfl; simp at hk
    have n2 : op ≠ .neq := by rintro rfl; simp at hk
    obtain ⟨q, h1, h2⟩ := bin_pure n1 n2 (hρ a) (hρ b) hv w
    exact ⟨q, by rw [Sem.run_bind, h1]; rfl, h2⟩
  case unOp op t a => exact pure_of h fun v hv w => un_rel (hρ a) hv w
  case convert s d a =>
    have hd : (match P.underlying d with | some (.int _) | some (.float _) | some (.complex _) => true | _ => false) = true := by
      cases hu : P.underlying d with
      | none => rw [hu] at hk; cases hk
      | some u => rw [hu] at hk; cases u <;> first | rfl | cases hk
    obtain ⟨b, _, rfl, _, _⟩ := conv_pure hd (hρ a) h default
    refine ⟨b, rfl, fun w => ?_⟩
    obtain ⟨b', u, e, h1, h2⟩ := conv_pure hd (hρ a) h w
    cases e
    exact ⟨u, by simp [h1], h2⟩
  case makeInterface t a =>
    split at h
    · cases h
    · rename_i d hni hu
      cases h
      refine ⟨_, rfl, fun w => ⟨.iface t (ρ' a), ?_, .iface _ _ _ (hρ a)⟩⟩
      have : (Instr.makeInterface t (ρ' a)).run P w = .ok (.iface t (ρ' a)) w := by
        simp only [Instr.makeInterface, Sem.run_bind, run_uty hu, Result.andThen_ok]
        cases d <;> first | rfl | exact absurd rfl (hni _)
      simp [this]
    · cases h
  case makeFunc fn first cap =>
    cases h
    exact ⟨_, rfl, fun w => ⟨.func fn (first.map ρ') (cap.map ρ'), rfl, .func _ _ _ _ _ (list_map_rel hρ first) (list_map_rel hρ cap)⟩⟩
  case slice t a lo hi mx => exact pure_of h fun v hv w => slice_rel (hρ a) (map_rel hρ lo) (map_rel hρ hi) (map_rel hρ mx) hv w
  case fieldAddr s a f => exact pure_of h fun v hv w => fieldAddr_rel (hρ a) hv w
  case field s a f => exact pure_of h fun v hv w => field_rel (hρ a) hv w
  case indexAddr t a i => exact pure_of h fun v hv w => indexAddr_rel (hρ a) (hρ i) hv w
  case index t a i => exact pure_of h fun v hv w => index_rel (hρ a) (hρ i) hv w
  case typeAssert a xt t c => exact pure_of h fun v hv w => assert_rel (hρ a) hv xt w
  case extract a i => exact pure_of h fun v hv w => extract_rel (hρ a) hv w
  case call c =>
    obtain ⟨callee, cargs, ctypes⟩ := c
    cases callee <;> simp only [reduceCtorEq] at hk
    rename_i b
    have hb : isPureB b = true := by cases b <;> first | rfl | cases hk
    obtain ⟨v, rfl, hv⟩ := builtin_pure (type := type) (consts := cargs.map fun | .const _ => true | _ => false) hb (list_map_rel hρ cargs) h
    exact ⟨v, rfl, fun w => hv w⟩
  all_goals (first | (exact absurd hk (by intro h; cases h)) | (simp at hk; done))

/-! ## operations that make an object of their operands -/
/-- what an operation that makes an object gives. -/
def NewsRes (P : Program) (φ : Em) (x : K) (s : Sem Next) (r : XR) : Prop := ∃ v o, r = .fresh v o ∧ ∀ w : World, ∃ ob p v' w', s.run P w = .ok (.value v') w' ∧ w'.heap = w.heap.push ob ∧ p.blk = w.heap.size ∧
    (w'.os = w.os ∧ w'.output = w.output ∧ w'.tape = w.tape) ∧ (φ x = none → VRel (φ.with x p) v v' ∧ ORel (φ.with x p) p o ob)

theorem newCells_rel {x : K} {a : AV} {v : Value} {r : XR} {t : TypeId} {s : Sem Next} (ha : VRel φ a v) (h : newCells x (cellsOf a) = some r) (hs : ∀ w : World, s.run P w = .ok (.value (.pointer (some ⟨w.heap.size, 0, none⟩))) { w with heap := w.heap.push (.cells v.cells t) }) :
    NewsRes P φ x s r := by
  unfold newCells at h
  split at h
  · rename_i hst
    cases h
    obtain ⟨hr, _⟩ := cells_rel hst ha
    refine ⟨_, _, rfl, fun w => ⟨_, ⟨w.heap.size, 0, v.cells.size, none⟩, _, _, hs w, rfl, rfl, ⟨rfl, rfl, rfl⟩, fun hx => ⟨?_, ?_⟩⟩⟩
    · have := VRel.ptr (φ := φ.with x ⟨w.heap.size, 0, v.cells.size, none⟩) x 0 _ (Em.with_same _ _ _)
      simpa using this
    · have := orel_cells (φ.with x ⟨w.heap.size, 0, v.cells.size, none⟩) (cellsOf a) v.cells.toList t w.heap.size (hr.mono (Em.le_with φ _ _ hx))
      simpa using this
  · cases h

theorem buildSlice_rel {x : K} {t : TypeId} {n : Nat} {parts : List (Nat × AV)} {parts' : Array (Nat × Value)} {v : AV} {o : AObj} (hlen : parts.length = parts'.toList.length)
    (hg : ∀ (k : Nat) (i : Nat) (a : AV), parts[k]? = some (i, a) → ∃ v, parts'.toList[k]? = some (i, v) ∧ VRel φ a v) (h : xbuildSlice P x t n parts = some (v, o)) :
    NewsRes P φ x (do pure (.value (← Instr.buildSlice t n parts'))) (.fresh v o) := by
  unfold xbuildSlice at h
  split at h
  · rename_i e hu
    split at h
    · rename_i es z hes hz
      split at h
      · rename_i ps hle hps
        rw [ble_nat, decide_eq_true_eq] at hle
        split at h
        · rename_i q hq
          cases h
          obtain ⟨zv, s, hzr, hs, hzs, hzl, _, _⟩ := zeros_rel (φ := φ) hz
          rw [hes] at hs; cases hs
          obtain ⟨cs', h1, h2⟩ := fill_rel (cs := Builtin.zeroCells zv.cells n) hlen hg hps hq hzl
          refine ⟨_, _, rfl, fun w => ⟨.cells cs' e, ⟨w.heap.size, 0, cs'.size, none⟩, .slice (some ⟨w.heap.size, 0, none⟩) n n, { w with heap := w.heap.push (.cells cs' e) }, ?_, rfl, rfl, ⟨rfl, rfl, rfl⟩, fun hx => ⟨?_, ?_⟩⟩⟩
          · have hng : ¬ (n * es > 2 ^ 24) := by omega
            by_cases h0 : n * es = 0
            · have hc : (Array.range (n * es)).map (fun k => (#[] : Array Value)[k % (#[] : Array Value).size]!) = Builtin.zeroCells zv.cells n := by
                unfold Builtin.zeroCells; rw [hzs]; simp [h0]
              rw [h0] at hng hc
              simp only [Instr.buildSlice, Sem.run_bind, run_uty hu, Result.andThen_ok, run_sizeOf hes, h0, hng, if_false, if_true, Sem.run_pure]
              rw [hc, h1]
              simp only [Sem.run_bind, run_newRow, Result.andThen_ok, Sem.run_pure]
            · have hc : (Array.range (n * es)).map (fun k => zv.cells[k % zv.cells.size]!) = Builtin.zeroCells zv.cells n := by
                unfold Builtin.zeroCells; rw [hzs]
              simp only [Instr.buildSlice, Sem.run_bind, run_uty hu, Result.andThen_ok, run_sizeOf hes, hng, if_false, h0, Sem.run_pure, hzr]
              rw [hc, h1]
              simp only [Sem.run_bind, run_newRow, Result.andThen_ok, Sem.run_pure]
          · have := VRel.slx (φ := φ.with x ⟨w.heap.size, 0, cs'.size, none⟩) x 0 n n es _ (Em.with_same _ _ _)
            simpa using this
          · have := orel_cells (φ.with x ⟨w.heap.size, 0, cs'.size, none⟩) q cs'.toList e w.heap.size (h2.mono (Em.le_with φ _ _ hx))
            simpa using this
        · cases h
      · cases h
    · cases h
  · cases h

theorem news_rel {ρ : Operand → AV} {ρ' : Operand → Value} (hρ : ∀ y, VRel φ (ρ y) (ρ' y)) {o : Oper} {x : K} {r : XR} (hk : kindOf P o.op = .news) (h : xop P ρ H x o.op = some r) : NewsRes P φ x (execOp ρ' o) r := by
  obtain ⟨dst, op, type, pos, after, guard⟩ := o
  have mapNew : ∀ (s : Sem Value), (∀ w : World, s.run P w = .ok (.map (some w.heap.size)) { w with heap := w.heap.push (.map #[] 0) }) → NewsRes P φ x (do pure (.value (← s))) (.fresh (.mapv x) (.map [] 0)) := fun s hs =>
    ⟨_, _, rfl, fun w => ⟨.map #[] 0, ⟨w.heap.size, 0, 0, none⟩, .map (some w.heap.size), { w with heap := w.heap.push (.map #[] 0) }, by simp only [Sem.run_bind, hs, Result.andThen_ok, Sem.run_pure], rfl, rfl, ⟨rfl, rfl, rfl⟩, fun _ => ⟨.mapv x _ (Em.with_same _ _ _), .map [] #[] 0 .nil⟩⟩⟩
  cases op <;> simp only [xop] at h <;> simp only [kindOf, reduceCtorEq] at hk <;> simp only [execOp]
  case alloc e =>
    split at h
    · rename_i z hz
      obtain ⟨zv, hzr, rfl⟩ := run_zeros hz
      exact newCells_rel (t := e) (ofConst_rel φ zv) h fun w => by simp [Instr.alloc, hzr, newVar, newRow]
    · cases h
  case box t a =>
    exact newCells_rel (t := t) (hρ a) h fun w => by simp [Instr.box, newVar, newRow]
  case buildSlice t n ps =>
    obtain ⟨h1, h2⟩ := pairs_get hρ ps
    split at h
    · rename_i v o hv
      cases h
      exact buildSlice_rel h1 h2 hv
    · cases h
  case makeMap t rs =>
    cases rs with
    | none =>
      cases h
      exact mapNew _ fun w => by simp [Instr.makeMap]
    | some hh =>
      simp only at h
      split at h
      · rename_i kt et k hu hi
        cases h
        obtain ⟨kk, n⟩ := k
        have hi := asInt_some hi
        have hr := hρ hh; rw [hi] at hr
        have hv := rel_int hr
        exact mapNew _ fun w => by simp [Instr.makeMap, hv, run_uty hu, asInt_int]
      · cases h
  case makeSlice t l c =>
    obtain ⟨v, o, rfl, _⟩ := make_rel (H := H) (w := default) (hρ l) (hρ c) h
    refine ⟨v, o, rfl, fun w => ?_⟩
    obtain ⟨v2, o2, e, ob, p, n, v', w', g1, g2, g3, g4, g5, g6⟩ := make_rel (H := H) (w := w) (hρ l) (hρ c) h
    cases e
    rcases g2 with rfl | ⟨rfl, rfl⟩
    · exact ⟨ob, p, v', w', g1, g3, g4, g5, g6⟩
    · exfalso
      revert g1
      simp only [Sem.run_bind]
      cases (Instr.makeSlice t (ρ' l) (ρ' c)).run P w <;> simp [Result.andThen]
  case call c =>
    obtain ⟨callee, cargs, ctypes⟩ := c
    cases callee <;> simp only [reduceCtorEq] at hk
    rename_i b
    cases b <;> cases hk
  all_goals first
    | (exfalso; revert hk; split <;> simp; done)
    | skip

/-! ## calls -/
theorem callF_some {f : FuncId} {args : List AV} {r : XR} (h : callF P f args = some r) : r = .call f args ∧ ∃ fn b, P.funcs[f]? = some fn ∧ fn.body = some b := by
  unfold callF at h
  split at h
  · rename_i hp
    cases h
    unfold plainFn at hp
    split at hp
    · rename_i fn hf
      obtain ⟨b, hb⟩ := Option.isSome_iff_exists.1 hp
      exact ⟨rfl, fn, b, hf, hb⟩
    · cases hp
  · cases h
theorem callFunc_ok (hF : Fit P) {f : FuncId} {fn : Func} {b : Code} (hf : P.funcs[f]? = some fn) (hb : fn.body = some b) (args : Array Value) (w : World) : (callFunc f args).run P w = .ok (.enter f args) w := by
  have hn : ¬ fn.name = "runtime.NumGoroutine" := by simpa using hF.plain f fn hf
  simp [callFunc, hf, hn, hb]

theorem callV_rel (hF : Fit P) {f : AV} {fv : Value} {l : List AV} {args : Array Value} {r : XR} {x : K} (hf : VRel φ f fv) (hl : VRels φ l args.toList) (h : xcallV P f l = some r) :
    OpRes P φ H w x (do let d ← Deferred.ofValue fv args; invoke d.target d.args) r ∧ ((∃ g as, r = .call g as) ∨ ∃ y as, r = .yield y as) := by
  unfold xcallV at h
  split at h
  · rename_i g first cap
    obtain ⟨rfl, fn, b, hg, hb⟩ := callF_some h
    cases hf with
    | func _ _ _ fs cs h1 h2 =>
      refine ⟨⟨fs ++ args ++ cs, ?_, ?_⟩, .inl ⟨_, _, rfl⟩⟩
      · simp only [Deferred.ofValue, Sem.run_bind, Sem.run_pure, Result.andThen_ok, invoke, callFunc_ok hF hg hb]
      · simp only [Array.toList_append]; exact (h1.append hl).append h2
  · rename_i y
    cases h
    cases hf with
    | yieldf _ p hp =>
      refine ⟨⟨p, args, hp, ?_, hl⟩, .inr ⟨_, _, rfl⟩⟩
      simp only [Deferred.ofValue, Sem.run_bind, Sem.run_pure, Result.andThen_ok, invoke]
      rw [show (#[] : Array Value) ++ args = args from by simp]
  · cases h

theorem invoke_rel (hF : Fit P) {a : AV} {v : Value} {name : String} {l : List AV} {args : Array Value} {r : XR} {x : K} (ha : VRel φ a v) (hl : VRels φ l args.toList) (h : xinvoke P a name l = some r) :
    OpRes P φ H w x (invoke (.fn (.method name) #[]) (#[v] ++ args)) r ∧ ∃ g as, r = .call g as := by
  unfold xinvoke at h
  split at h
  · rename_i t b
    cases ha with
    | iface _ _ bv hb =>
      split at h
      · rename_i i hi
        split at h
        · rename_i m hm
          split at h
          · rename_i f e hpath hfunc hu
            obtain ⟨rfl, fn, body, hg, hbody⟩ := callF_some h
            refine ⟨⟨#[bv] ++ args, ?_, ?_⟩, _, _, rfl⟩
            · have hne : P.types.size + Made.depth = (P.types.size + Made.depth - 1) + 1 := by
                have : 1 ≤ Made.depth := by decide
                omega
              have hmeth : (method (P.types.size + Made.depth) t bv name).run P w = .ok (f, bv) w := by
                rw [hne, method]
                simp only [Sem.run_bind, run_info hi, Result.andThen_ok, hm]
                have hp : m.path.toList = [] := hpath
                simp only [hp, follow, Sem.run_bind, Sem.run_pure, Result.andThen_ok, hfunc]
                simp only [receiverAt, Sem.run_bind, run_uty hu, Result.andThen_ok, Place.get, Sem.run_pure]
              have h0 : (#[Value.iface t bv] ++ args)[0]? = some (.iface t bv) := by rw [← Array.getElem?_toList, Array.toList_append]; rfl
              have h1 : (#[Value.iface t bv] ++ args).extract 1 (#[Value.iface t bv] ++ args).size = args := by
                apply Array.toList_inj.1
                simp [List.extract_eq_take_drop]
              simp only [invoke, h0, h1, callMethod, Sem.run_bind, run_program, Result.andThen_ok, hmeth, callFunc_ok hF hg hbody]
            · simp only [Array.toList_append]
              exact .cons _ _ _ _ hb hl
          · cases h
        · cases h
      · cases h
  · cases h

/-! ## all of them -/
theorem okV_rel {s : Sem Value} {o : Option AV} {x : XR} {y : K} (h : okV o = some x) (k : ∀ v, o = some v → ∃ v', s.run P w = .ok v' w ∧ VRel φ v v') : OpRes P φ H w y (do pure (.value (← s))) x := by
  obtain ⟨v, hv, rfl⟩ := okV_some h
  obtain ⟨v', h1, h2⟩ := k v hv
  exact res_val h1 h2 (Same.refl w)
theorem okH_rel {s : Sem Unit} {o : Option Hp} {x : XR} {y : K} (h : okH o = some x) (k : ∀ H', o = some H' → ∃ w', s.run P w = .ok () w' ∧ HRel P φ H' w' ∧ Ext φ φ H H' w w') : OpRes P φ H w y (do s; pure .skip) x := by
  obtain ⟨H', hv, rfl⟩ := okH_some h
  obtain ⟨w', h1, h2, h3⟩ := k H' hv
  exact ⟨φ, .skip, undef, w', by simp [h1], .inr ⟨rfl, rfl⟩, .undef _, h2, h3⟩
theorem pure_res {s : Sem Next} {x : XR} {y : K} (h : PureRes P φ s x) : OpRes P φ H w y s x := by
  obtain ⟨v, rfl, hv⟩ := h
  obtain ⟨v', h1, h2⟩ := hv w
  exact ⟨_, v', w, h1, .inl rfl, h2, Same.refl w⟩
theorem news_res {s : Sem Next} {x : XR} {y : K} (h : NewsRes P φ y s x) : OpRes P φ H w y s x := by
  obtain ⟨v, o, rfl, hv⟩ := h
  obtain ⟨ob, p, v', w', g1, g2, g3, g4, g5⟩ := hv w
  exact ⟨ob, p, _, v', w', g1, .inl rfl, g2, g3, g4, g5⟩

theorem builtin_rel (r : HRel P φ H w) {b : Builtin} {ts : Array TypeId} {type : TypeId} {consts : Array Bool} {args : Array Value} {l : List AV} {x : XR} (hl : VRels φ l args.toList) (h : xbuiltin P H b ts.toList l = some x) :
    OpRes P φ H w H.next (builtin b ts type consts args) x := by
  by_cases hp : isPureB b = true
  · exact pure_res (builtin_pure hp hl h)
  · cases b <;> simp only [isPureB, not_true_eq_false] at hp <;> simp only [builtin]
    case append =>
      cases hts : ts.toList with
      | nil => rw [hts] at h; cases l <;> cases h
      | cons t tr =>
        cases tr with
        | nil => rw [hts] at h; cases l <;> cases h
        | cons u tr =>
          rw [hts] at h
          cases l with
          | nil => cases h
          | cons a l =>
            cases l with
            | nil => cases h
            | cons c l =>
              obtain ⟨v, v2, g0, g1, r0, r1⟩ := args1 hl
              exact append_rel r r0 r1 h (types0 hts) (types1 hts) g0 g1
    case len =>
      cases hts : ts.toList with
      | nil => rw [hts] at h; cases l <;> cases h
      | cons t tr =>
        rw [hts] at h
        cases l with
        | nil => cases h
        | cons a l =>
          obtain ⟨v, vs, _, g0, r0, _⟩ := args0 hl
          exact okV_rel (o := xlen P H t a) h fun q hq => len_rel r r0 hq (types0 hts) g0
    case copy =>
      cases hts : ts.toList with
      | nil => rw [hts] at h; cases l <;> cases h
      | cons t tr =>
        rw [hts] at h
        cases l with
        | nil => cases h
        | cons a l =>
          cases l with
          | nil => cases h
          | cons c l =>
            obtain ⟨v, v2, g0, g1, r0, r1⟩ := args1 hl
            exact copy_rel r r0 r1 h (types0 hts) g0 g1
    case clear =>
      cases hts : ts.toList with
      | nil => rw [hts] at h; cases l <;> cases h
      | cons t tr =>
        rw [hts] at h
        cases l with
        | nil => cases h
        | cons a l =>
          obtain ⟨v, vs, _, g0, r0, _⟩ := args0 hl
          exact clear_rel r r0 h (types0 hts) g0
    case delete =>
      cases hts : ts.toList with
      | nil => rw [hts] at h; cases l <;> cases h
      | cons t tr =>
        rw [hts] at h
        cases l with
        | nil => cases h
        | cons a l =>
          cases l with
          | nil => cases h
          | cons c l =>
            obtain ⟨v, v2, g0, g1, r0, r1⟩ := args1 hl
            exact delete_rel r r0 r1 h (types0 hts) g0 g1
    all_goals (exfalso; unfold xbuiltin at h; split at h <;> first | (cases h; done) | (simp_all; done))

theorem xop_rel (hF : Fit P) (r : HRel P φ H w) {ρ : Operand → AV} {ρ' : Operand → Value} (hρ : ∀ y, VRel φ (ρ y) (ρ' y)) (o : Oper) {x : XR} (h : xop P ρ H H.next o.op = some x) : OpRes P φ H w H.next (execOp ρ' o) x := by
  by_cases hp : kindOf P o.op = .pure
  · exact pure_res (pure_rel hρ hp h)
  by_cases hn : kindOf P o.op = .news
  · exact news_res (news_rel hρ hn h)
  obtain ⟨dst, op, type, pos, after, guard⟩ := o
  cases op <;> simp only [xop] at h <;> simp only [kindOf, reduceCtorEq, not_true_eq_false, not_false_eq_true] at hp hn <;> simp only [execOp]
  case load t a =>
    exact okV_rel h fun q hq => by
      obtain ⟨ad, u, e, _, h1, h2⟩ := xload_rel r (hρ a) hq
      exact ⟨u, by simp [Instr.loadAt, e, sureAddr_ptr, h1], h2⟩
  case lookup t m k c => exact okV_rel h fun q hq => lookup_rel r (hρ m) (hρ k) hq
  case binOp op t a b yt => exact okV_rel h fun q hq => bin_rel r (hρ a) (hρ b) hq
  case store t a v =>
    exact okH_rel h fun H' hH => by
      unfold xstore at hH
      split at hH
      · rename_i n hn
        obtain ⟨ad, w', e, _, h1, h2, h3⟩ := storeN_rel r hn (hρ a) (hρ v) hH
        exact ⟨w', by simp [Instr.storeAt, e, sureAddr_ptr, h1], h2, h3⟩
      · cases hH
  case convert s d a => exact convert_rel r (hρ a) h
  case mapUpdate t m k v => exact okH_rel h fun H' hH => mapUpdate_rel r (hρ m) (hρ k) (hρ v) hH
  case insert t m k v => exact okH_rel h fun H' hH => mapUpdate_rel r (hρ m) (hρ k) (hρ v) hH
  case call c =>
    obtain ⟨callee, cargs, ctypes⟩ := c
    have hargs := list_map_rel hρ cargs
    cases callee with
    | builtin b => exact builtin_rel r hargs h
    | value f => exact (callV_rel hF (hρ f) hargs h).1
    | invoke rc name => exact (invoke_rel hF (hρ rc) hargs h).1
  all_goals cases h

end
end Go.Sx
