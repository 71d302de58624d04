/- One operation of a region, where a frame stands: the machine's answer leads the frame on. -/
import Derived.Test.YtmkcndaidopkpaaGreatDoorSx14
import Derived.AtR
namespace Go.Sx
noncomputable section
variable {P : Program}

/-- where a run comes to: behind the code, or at a jump that nothing within it takes. -/
def Arr (P : Program) (m : Machine) (b : Frame) (k : List Item) (cs : List Frame) : Ex → Act → World → Prop
  | .normal, a, w => Steps P m (lone (b.atR a k) cs w)
  | .exit id, a, w => ∃ q, exitTo id q = exitTo id k ∧ Steps P m (lone (b.atR a (.code (.exit id) :: q)) cs w)
  | .goto l, a, w => ∃ q, gotoIn l q = gotoIn l k ∧ Steps P m (lone (b.atR a (.code (.goto l) :: q)) cs w)
  | .ret, a, w => ∃ q, Steps P m (lone (b.atR a (.code .ret :: q)) cs w)
theorem Arr.of_steps {m m₁ : Machine} {b : Frame} {k : List Item} {cs : List Frame} {e : Ex} {a : Act} {w : World} (h : Steps P m m₁) (h' : Arr P m₁ b k cs e a w) : Arr P m b k cs e a w := by
  cases e with
  | normal => exact h.trans h'
  | exit id => obtain ⟨q, hq, hs⟩ := h'; exact ⟨q, hq, h.trans hs⟩
  | goto l => obtain ⟨q, hq, hs⟩ := h'; exact ⟨q, hq, h.trans hs⟩
  | ret => obtain ⟨q, hs⟩ := h'; exact ⟨q, h.trans hs⟩

def mark (r : Nat) : Deferred := { target := .collected r, args := #[] }
/-- the deferred calls of a frame: the empty blocks of loops, made since the call, which the heap does not know. -/
def DOk (s : Nat) (φ : Em) (H : Hp) (w : World) (ds : List Deferred) : Prop :=
  s ≤ w.heap.size ∧ ∃ rs : List Nat, rs.Nodup ∧ ds = rs.map mark ∧ ∀ r ∈ rs, w.heap[r]? = some (.deferred (some [])) ∧ ¬ Lies φ H r ∧ s ≤ r
theorem DOk.nil {s : Nat} (φ : Em) (H : Hp) (w : World) (h : s ≤ w.heap.size) : DOk s φ H w [] := ⟨h, [], .nil, rfl, by simp⟩
theorem DOk.ext {s : Nat} {φ φ' : Em} {H H' : Hp} {w w' : World} {ds : List Deferred} (h : DOk s φ H w ds) (e : Ext φ φ' H H' w w') : DOk s φ' H' w' ds := by
  obtain ⟨h0, rs, h1, h2, h3⟩ := h
  refine ⟨Nat.le_trans h0 e.size, rs, h1, h2, fun r hr => ?_⟩
  obtain ⟨h4, h5, h6⟩ := h3 r hr
  have hlt : r < w.heap.size := (Array.getElem?_eq_some_iff.1 h4).1
  exact ⟨(e.frame r hlt h5).trans h4, fun hl => (e.lies r hl).elim h5 (fun hs => by omega), h6⟩

/-- the frame is as the machine tells. -/
structure At (P : Program) (s : Nat) (φ : Em) (T : FrP) (L : Loc) (t : Tr AV) (H : Hp) (b : Frame) (a : Act) (w : World) : Prop where
  tr : TRel φ T L t a.tmps
  hr : HRel P φ H w
  df : DOk s φ H w a.defers
  rn : T.rnd = false → b.roundOf = none

def CodeOk (P : Program) (items : List Item) (T : FrP) (L : Loc) (t : Tr AV) (H : Hp) (e : Ex) (L' : Loc) (t' : Tr AV) (H' : Hp) : Prop :=
  ∀ s φ b a w k cs, At P s φ T L t H b a w → ∃ φ' a' w', At P s φ' T L' t' H' b a' w' ∧ Ext φ φ' H H' w w' ∧ Arr P (lone (b.atR a (items ++ k)) cs w) b k cs e a' w'
def CallOk (P : Program) (f : FuncId) (args : List AV) (H : Hp) (v : AV) (H' : Hp) : Prop :=
  ∀ φ w args', HRel P φ H w → VRels φ args args'.toList → Calls P f args' w fun e w' => ∃ φ' v', e = .returned v' ∧ VRel φ' v v' ∧ HRel P φ' H' w' ∧ Ext φ φ' H H' w w'
def YieldOk (P : Program) (x : K) (args : List AV) (H : Hp) (v : AV) (H' : Hp) : Prop :=
  ∀ φ w p args', HRel P φ H w → φ x = some p → VRels φ args args'.toList → ∃ fn tmps as body, (Instr.yield p.blk args').run P w = .ok (.round p.blk fn tmps as body) w ∧
    ∀ c cs, ∃ φ' v' w', VRel φ' v v' ∧ HRel P φ' H' w' ∧ Ext φ φ' H H' w w' ∧ Steps P (lone (Frame.round p.blk fn tmps as body .normal) (c :: cs) w) (lone (c.finish v') cs w')

/-- what is to be shown of the machine. -/
structure RecOk (P : Program) (rec : Job → Option Res) : Prop where
  code : ∀ c T L t H e L' t' H', rec (.code c T L t H) = some (.out e L' t' H') → CodeOk P [.code c] T L t H e L' t' H'
  scope : ∀ b c T L t H e L' t' H', rec (.scope b c T L t H) = some (.out e L' t' H') → CodeOk P [.code c, .inScope b] T L t H e L' t' H'
  call : ∀ f args H v H', rec (.call f args H) = some (.val v H') → CallOk P f args H v H'
  yield : ∀ x args H v H', rec (.yield x args H) = some (.val v H') → YieldOk P x args H v H'

theorem valOf_some {r : Option Res} {v : AV} {H : Hp} (h : valOf r = some (v, H)) : r = some (.val v H) := by
  cases r with
  | none => cases h
  | some r =>
    cases r with
    | out e L t H => cases h
    | val u G => cases h; rfl

section
variable {φ : Em} {H H' : Hp} {w : World} {rec : Job → Option Res} {b : Frame} {a : Act} {k : List Item} {cs : List Frame} {ops : Array Oper} {i : Nat} {rest : List Nat} {o : Oper}

/-- a value, or nothing. -/
theorem step_gives {w' : World} {n : Next} {v : Value} (ho : ops[i]? = some o) (hw : Region.wanted o (yielded ops a.tmps) = true) (hd : ∀ c, o.op ≠ .defer c)
    (hr : (execOp a.eval o).run P w = .ok n w') (hg : Gives n v) :
    Go.step P (lone (b.atR a (.inRegion ops (i :: rest) :: k)) cs w) = .next (lone (b.atR (a.put o.dst v) (.inRegion ops rest :: k)) cs w') := by
  have hfin : (b.atR a (.inRegion ops (i :: rest) :: k)).finish v = b.atR (a.put o.dst v) (.inRegion ops rest :: k) := by
    rw [Frame.finish_atR, ho]; rfl
  have hs := stepGR_op (P := P) (b := b) (a := a) (k := k) (cs := cs) (w := w) (rest := rest) ho hw
  rw [Oper.semAt_eq _ _ _ hd] at hs
  refine step_lone_go ?_
  rw [hs]
  rcases hg with rfl | ⟨rfl, rfl⟩
  · rw [← hfin]; simp [stepG.apply, hr]
  · rw [← hfin]; simp [stepG.apply, hr]
theorem step_enters {w' : World} {f : FuncId} {args : Array Value} (ho : ops[i]? = some o) (hw : Region.wanted o (yielded ops a.tmps) = true) (hd : ∀ c, o.op ≠ .defer c)
    (hr : (execOp a.eval o).run P w = .ok (.enter f args) w') :
    Go.step P (lone (b.atR a (.inRegion ops (i :: rest) :: k)) cs w) = .next (lone (Frame.enter P f args .normal) (b.atR a (.inRegion ops (i :: rest) :: k) :: cs) w') := by
  have hs := stepGR_op (P := P) (b := b) (a := a) (k := k) (cs := cs) (w := w) (rest := rest) ho hw
  rw [Oper.semAt_eq _ _ _ hd] at hs
  refine step_lone_go ?_
  rw [hs]
  simp [stepG.apply, hr, Frame.atR]
theorem step_rounds {w' : World} {l : Nat} {f : FuncId} {tmps : Array Value} {as body : Code} (ho : ops[i]? = some o) (hw : Region.wanted o (yielded ops a.tmps) = true) (hd : ∀ c, o.op ≠ .defer c)
    (hr : (execOp a.eval o).run P w = .ok (.round l f tmps as body) w') :
    Go.step P (lone (b.atR a (.inRegion ops (i :: rest) :: k)) cs w) = .next (lone (Frame.round l f tmps as body .normal) (b.atR a (.inRegion ops (i :: rest) :: k) :: cs) w') := by
  have hs := stepGR_op (P := P) (b := b) (a := a) (k := k) (cs := cs) (w := w) (rest := rest) ho hw
  rw [Oper.semAt_eq _ _ _ hd] at hs
  refine step_lone_go ?_
  rw [hs]
  simp [stepG.apply, hr, Frame.atR]

theorem op_step (rok : RecOk P rec) (r : HRel P φ H w) {x : XR} {v : AV} (hx : OpRes P φ H w H.next (execOp a.eval o) x) (hv : resX rec H x = some (v, H'))
    (ho : ops[i]? = some o) (hw : Region.wanted o (yielded ops a.tmps) = true) (hd : ∀ c, o.op ≠ .defer c) :
    ∃ φ' v' w', VRel φ' v v' ∧ HRel P φ' H' w' ∧ Ext φ φ' H H' w w' ∧
      Steps P (lone (b.atR a (.inRegion ops (i :: rest) :: k)) cs w) (lone (b.atR (a.put o.dst v') (.inRegion ops rest :: k)) cs w') := by
  have hfin : ∀ v, (b.atR a (.inRegion ops (i :: rest) :: k)).finish v = b.atR (a.put o.dst v) (.inRegion ops rest :: k) := by
    intro v; rw [Frame.finish_atR, ho]; rfl
  cases x with
  | val u =>
    cases hv
    obtain ⟨n, v', w', h1, h2, h3, h4⟩ := hx
    exact ⟨φ, v', w', h3, r.same h4, h4.ext φ H, .one (step_gives ho hw hd h1 h2)⟩
  | heap u G =>
    cases hv
    obtain ⟨φ', n, v', w', h1, h2, h3, h4, h5⟩ := hx
    exact ⟨φ', v', w', h3, h4, h5, .one (step_gives ho hw hd h1 h2)⟩
  | fresh u ob =>
    cases hv
    obtain ⟨obj, p, n, v', w', h1, h2, h3, h4, ⟨h5, h6, h7⟩, h8⟩ := hx
    obtain ⟨h9, h10⟩ := h8 r.none_next
    exact ⟨_, v', w', h9, r.new h3 h4 h10, Ext.new r h3 h4 h5 h6 h7, .one (step_gives ho hw hd h1 h2)⟩
  | call f args =>
    obtain ⟨args', h1, h2⟩ := hx
    obtain ⟨e, w', fr, ⟨φ', v', rfl, h3, h4, h5⟩, h6, _, h7⟩ := rok.call _ _ _ _ _ (valOf_some hv) φ w args' r h2 (b.atR a (.inRegion ops (i :: rest) :: k) :: cs)
    refine ⟨φ', v', w', h3, h4, h5, .head (step_enters ho hw hd h1) (Steps.trans h6 (.one ?_))⟩
    rw [← hfin]; exact step_leave_returned h7
  | yield y args =>
    obtain ⟨p, args', h1, h2, h3⟩ := hx
    obtain ⟨fn, tmps, as, body, h4, h5⟩ := rok.yield _ _ _ _ _ (valOf_some hv) φ w p args' r h1 h3
    obtain ⟨φ', v', w', h6, h7, h8, h9⟩ := h5 (b.atR a (.inRegion ops (i :: rest) :: k)) cs
    refine ⟨φ', v', w', h6, h7, h8, .head (step_rounds ho hw hd (h2.trans h4)) ?_⟩
    rw [← hfin]; exact h9
end

/-! ## guards -/
theorem wanted_rel {φ : Em} {T : FrP} {L : Loc} {t : Tr AV} {a : Act} {ops : Array Oper} {o : Oper} {g : Option (Opd × Bool)} {s : Bool}
    (hq : guardOf P T ops.toList o = some g) (hs : guardSays L t g = some s)
    (r : ∀ d j w, o.guard = some (j, w) → (ops[j]?).bind (·.dst) = some d → VRel φ (env T L t d) (a.tmps.getD d undef)) : Region.wanted o (yielded ops a.tmps) = s := by
  unfold guardOf at hq
  unfold Region.wanted
  split at hq
  · rename_i hg
    cases hq
    simp only [hg]
    cases hs; rfl
  · rename_i j want hg
    split at hq
    · rename_i go hj
      split at hq
      · rename_i d hdst
        cases hq
        have hj : ops[j]? = some go := by rw [← Array.getElem?_toList]; exact hj
        have rd := r d j want hg (by simp [hj, hdst])
        simp only [hg]
        have e : guardSays L t (some (opd P T (.tmp d), want)) = @Option.rec Bool (fun _ => Option Bool) none (fun b => some (sameB b want)) (asBool (evo (opd P T (.tmp d)) L t)) := rfl
        rw [e] at hs
        rw [evo_tmp] at hs
        cases hb : asBool (env T L t d) with
        | none => rw [hb] at hs; cases hs
        | some c =>
          rw [hb] at hs
          have hb := asBool_some hb
          rw [hb] at rd
          have rd := rel_bool rd
          cases hs
          have hsome : a.tmps[d]? = some (.bool c) := by
            rw [Array.getD_eq_getD_getElem?] at rd
            cases h : a.tmps[d]? with
            | none => rw [h] at rd; cases rd
            | some v => rw [h] at rd; exact congrArg some rd
          have hy : yielded ops a.tmps j = some c := by
            simp [yielded, hj, hdst, hsome]
          rw [hy]
          cases c <;> cases want <;> rfl
      · cases hq
    · cases hq

theorem lay_nodefer {T : FrP} {L : Loc} {t : Tr AV} {H : Hp} {op : Op} {x : XR} (h : exec P T (lay P T op) L t H = some x) : ∀ c, op ≠ .defer c := by
  rintro c rfl
  cases h

/-! ## a region whose order is the text's -/
theorem putX_eq (rec : Job → Option Res) (d : Dst) (k : Loc → Tr AV → Hp → R) (L : Loc) (t : Tr AV) (H : Hp) (x : XR) : putX rec d k L t H x = putR d k L t (resX rec H x) := by
  cases x <;> rfl

theorem ops_rel (hF : Fit P) {rec : Job → Option Res} (rok : RecOk P rec) {T : FrP} {ops : Array Oper} : ∀ (l : List Oper) (i : Nat) (q : List CI), l = ops.toList.drop i → layOps P T ops.toList l = some q →
    ∀ (L : Loc) (t : Tr AV) (H : Hp) (L' : Loc) (t' : Tr AV) (H' : Hp), runOps P T rec q L t H = some (L', t', H') → ∀ s φ b a w k cs, At P s φ T L t H b a w →
      ∃ φ' a' w', At P s φ' T L' t' H' b a' w' ∧ Ext φ φ' H H' w w' ∧ Steps P (lone (b.atR a (.inRegion ops ((List.range ops.size).drop i) :: k)) cs w) (lone (b.atR a' k) cs w') := by
  intro l
  induction l with
  | nil =>
    intro i q hl hq L t H L' t' H' h s φ b a w k cs hat
    cases hq
    cases h
    have hi : ops.size ≤ i := by
      have := congrArg List.length hl
      simp at this; omega
    rw [List.drop_eq_nil_of_le (by simpa using hi)]
    exact ⟨φ, a, w, hat, Ext.refl _ _ _, .one stepR_region_end⟩
  | cons o l ih =>
    intro i q hl hq L t H L' t' H' h s φ b a w k cs hat
    have hi : i < ops.size := by
      have := congrArg List.length hl
      simp at this; omega
    have ho : ops[i]? = some o := by
      rw [← Array.getElem?_toList, ← List.head?_drop, ← hl]; rfl
    have hl' : l = ops.toList.drop (i + 1) := by
      rw [← List.tail_drop, ← hl]; rfl
    have hrange : (List.range ops.size).drop i = i :: (List.range ops.size).drop (i + 1) := by
      rw [List.drop_eq_getElem_cons (by simpa using hi)]
      simp
    rw [hrange]
    simp only [layOps] at hq
    split at hq
    · rename_i g q' hg hq'
      cases hq
      have h : oneOp P T rec ⟨g, dstOf T o.dst, lay P T o.op, false, 0, 0, false⟩ (runOps P T rec q') L t H = some (L', t', H') := h
      unfold oneOp at h
      cases hs : guardSays L t g with
      | none => rw [hs] at h; cases h
      | some s =>
        rw [hs] at h
        have hwant := wanted_rel (a := a) hg hs (fun d _ _ _ _ => hat.tr.rel d)
        cases s with
        | false =>
          have h : putD .undef (runOps P T rec q') L t H (dstOf T o.dst) = some (L', t', H') := h
          rw [putD_eq] at h
          have hstep := stepR_op_skip (P := P) (b := b) (a := a) (k := k) (cs := cs) (w := w) (ops := ops) (i := i) (rest := (List.range ops.size).drop (i + 1)) (by simp [ho, hwant])
          simp only [ho, Option.bind_some] at hstep
          have hat' : At P s φ T (putL T L o.dst .undef) (putT T t o.dst .undef) H b (a.put o.dst undef) w :=
            ⟨hat.tr.put o.dst (.undef _), hat.hr, by rw [put_defers']; exact hat.df, hat.rn⟩
          obtain ⟨φ', a', w', h1, h2, h3⟩ := ih (i + 1) q' hl' hq' _ _ _ _ _ _ h s φ b _ w k cs hat'
          exact ⟨φ', a', w', h1, h2, .head hstep h3⟩
        | true =>
          have h : (@Option.rec XR (fun _ => R) none (putX rec (dstOf T o.dst) (runOps P T rec q') L t H) (exec P T (lay P T o.op) L t H)) = some (L', t', H') := h
          cases hx : exec P T (lay P T o.op) L t H with
          | none => rw [hx] at h; cases h
          | some x =>
            rw [hx] at h
            have h : putX rec (dstOf T o.dst) (runOps P T rec q') L t H x = some (L', t', H') := h
            rw [putX_eq] at h
            cases hv : resX rec H x with
            | none => rw [hv] at h; cases h
            | some p =>
              obtain ⟨v, H₁⟩ := p
              rw [hv] at h
              have h : putD v (runOps P T rec q') L t H₁ (dstOf T o.dst) = some (L', t', H') := h
              rw [putD_eq] at h
              have hres := xop_rel hF hat.hr (ρ := fun y => evo (opd P T y) L t) (ρ' := a.eval) (fun y => evo_rel hat.hr.glob hat.tr y) o (lay_rel hx)
              obtain ⟨φ₁, v', w₁, h1, h2, h3, h4⟩ := op_step (b := b) (k := k) (cs := cs) (rest := (List.range ops.size).drop (i + 1)) rok hat.hr hres hv ho hwant (lay_nodefer hx)
              have hat' : At P s φ₁ T (putL T L o.dst v) (putT T t o.dst v) H₁ b (a.put o.dst v') w₁ :=
                ⟨(hat.tr.mono h3.le).put o.dst h1, h2, by rw [put_defers']; exact hat.df.ext h3, hat.rn⟩
              obtain ⟨φ', a', w', h5, h6, h7⟩ := ih (i + 1) q' hl' hq' _ _ _ _ _ _ h s φ₁ b _ w₁ k cs hat'
              exact ⟨φ', a', w', h5, h3.trans h6, h4.trans h7⟩
    · cases hq

end
end Go.Sx
