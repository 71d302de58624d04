/- The code of a frame, its calls, its loops over functions: the machine's run is the model's. -/
import Derived.Test.YtmkcndaidopkpaaGreatDoorSx15
namespace Go.Sx
noncomputable section
variable {P : Program}

theorem TRel.nil {φ : Em} {T : FrP} {L : Loc} {t : Tr AV} {tmps : Array Value} (r : TRel φ T L t tmps) : TRel φ T .nil t tmps := by
  have e : ∀ i, env T .nil t i = if T.thr ≤ i then .undef else env T L t i := by
    intro i
    unfold env
    by_cases h : T.thr ≤ i <;> simp [h, find_nil]
  refine ⟨r.size, fun i => ?_, fun i hi => ?_⟩
  · rw [e]; split
    · exact .undef _
    · exact r.rel i
  · rw [e]; split
    · rfl
    · exact r.out i hi
theorem At.nil {s : Nat} {φ : Em} {T : FrP} {L : Loc} {t : Tr AV} {H : Hp} {b : Frame} {a : Act} {w : World} (h : At P s φ T L t H b a w) : At P s φ T .nil t H b a w := ⟨h.tr.nil, h.hr, h.df, h.rn⟩

/-! ## objects -/
theorem run_getObj {w : World} {r : Nat} {o : Obj} (h : w.heap[r]? = some o) (hc : ∀ c e f, o ≠ .cells c e f) : (getObj r).run P w = .ok o w := by
  simp only [getObj, Sem.run, h]
theorem run_setObj {w : World} {r : Nat} {o o' : Obj} (h : w.heap[r]? = some o) (hc : ∀ c e f, o ≠ .cells c e f) : (setObj r o').run P w = .ok () { w with heap := w.heap.setIfInBounds r o' } := by
  simp only [setObj, Sem.run, h]
theorem run_getLoop {w : World} {r : Nat} {l : Loop} (h : w.heap[r]? = some (.loop l)) : (Instr.getLoop r).run P w = .ok l w := by
  simp [Instr.getLoop, run_getObj h]
theorem set_get_same {w : World} {r : Nat} {o o' : Obj} (h : w.heap[r]? = some o) : (w.heap.setIfInBounds r o')[r]? = some o' := by
  have := (Array.getElem?_eq_some_iff.1 h).1
  simp [this]
theorem set_get_ne (w : World) {r s : Nat} (o' : Obj) (h : s ≠ r) : (w.heap.setIfInBounds r o')[s]? = w.heap[s]? := by
  rw [Array.getElem?_setIfInBounds_ne (Ne.symm h)]

/-- a block that the heap does not know is set anew, or made. -/
theorem HRel.grow {φ : Em} {H : Hp} {w w' : World} (r : HRel P φ H w) (hf : ∀ b, Lies φ H b → w'.heap[b]? = w.heap[b]?) : HRel P φ H w' where
  obj := fun x o hx => by
    obtain ⟨p, ob, hp, hw, hr⟩ := r.obj x o hx
    exact ⟨p, ob, hp, by rw [hf _ ⟨x, o, p, hx, hp, rfl⟩]; exact hw, hr⟩
  inj := r.inj
  dom := r.dom
  glob := r.glob

/-! ## the heads of code -/
theorem stepR_scope {b : Frame} {a : Act} {k : List Item} {cs : List Frame} {w : World} {c : Code} :
    Go.step P (lone (b.atR a (.code (.scope c) :: k)) cs w) = .next (lone (b.atR a (.code c :: .inScope c :: k)) cs w) :=
  step_lone_go (by simp [stepG, stepG.exec, Frame.atR])
theorem stepR_inScope {b : Frame} {a : Act} {k : List Item} {cs : List Frame} {w : World} {c : Code} :
    Go.step P (lone (b.atR a (.inScope c :: k)) cs w) = .next (lone (b.atR a k) cs w) :=
  step_lone_go (by simp [stepG, stepG.exec, Frame.atR])

theorem Steps.tail {m m₁ m' : Machine} (h : Go.step P m = .next m₁) (h' : Steps P m m') (hn : m ≠ m') : Steps P m₁ m' := by
  obtain ⟨n, hn'⟩ := h'
  cases n with
  | zero => simp [runN] at hn'; exact absurd hn' hn
  | succ n =>
    simp only [runN, h] at hn'
    exact ⟨n, hn'⟩
theorem atR_ne {b : Frame} {a a' : Act} {q q' : List Item} {cs : List Frame} {w w' : World} (h : q ≠ q') : lone (b.atR a q) cs w ≠ lone (b.atR a' q') cs w' := by
  intro e
  apply h
  have h1 : (lone (b.atR a q) cs w).gs[0]? = (lone (b.atR a' q') cs w').gs[0]? := by rw [e]
  simp [lone, Frame.atR] at h1
  exact h1.2.1
theorem Arr.loop {b : Frame} {a a' : Act} {k : List Item} {cs : List Frame} {w w' : World} {c : Code} {e : Ex} (h : Arr P (lone (b.atR a (.code (.loop c) :: k)) cs w) b k cs e a' w') :
    Arr P (lone (b.atR a (.inLoop c :: k)) cs w) b k cs e a' w' := by
  have key : ∀ q, q ≠ .code (.loop c) :: k → Steps P (lone (b.atR a (.code (.loop c) :: k)) cs w) (lone (b.atR a' q) cs w') → Steps P (lone (b.atR a (.inLoop c :: k)) cs w) (lone (b.atR a' q) cs w') :=
    fun q hq hs => .head stepR_inLoop (Steps.tail stepR_loop hs (atR_ne (Ne.symm hq)))
  cases e with
  | normal => exact key k (fun e => by have := congrArg List.length e; simp at this) h
  | exit id => obtain ⟨q, hq, hs⟩ := h; exact ⟨q, hq, key _ (fun e => by injection e with e1; injection e1 with e2; cases e2) hs⟩
  | goto l => obtain ⟨q, hq, hs⟩ := h; exact ⟨q, hq, key _ (fun e => by injection e with e1; injection e1 with e2; cases e2) hs⟩
  | ret => obtain ⟨q, hs⟩ := h; exact ⟨q, key _ (fun e => by injection e with e1; injection e1 with e2; cases e2) hs⟩

/-- a jump passes by what stands behind. -/
theorem Arr.past {m : Machine} {b : Frame} {k : List Item} {cs : List Frame} {e : Ex} {a : Act} {w : World} {x : Item} (h : Arr P m b (x :: k) cs e a w) (hn : e ≠ .normal)
    (hx : ∀ id, e = .exit id → exitTo id (x :: k) = exitTo id k) (hg : ∀ l, e = .goto l → gotoIn l (x :: k) = gotoIn l k) : Arr P m b k cs e a w := by
  cases e with
  | normal => exact absurd rfl hn
  | exit id => obtain ⟨q, hq, hs⟩ := h; exact ⟨q, hq.trans (hx id rfl), hs⟩
  | goto l => obtain ⟨q, hq, hs⟩ := h; exact ⟨q, hq.trans (hg l rfl), hs⟩
  | ret => exact h

/-! ## one code behind another -/
theorem thenR_out {k : Loc → Tr AV → Hp → Option Res} {r : Option Res} {e : Ex} {L' : Loc} {t' : Tr AV} {H' : Hp} (h : thenR k r = some (.out e L' t' H')) :
    (∃ L t H, r = some (.out .normal L t H) ∧ k L t H = some (.out e L' t' H')) ∨ (e ≠ .normal ∧ r = some (.out e L' t' H')) := by
  cases r with
  | none => cases h
  | some r =>
    cases r with
    | val v H => cases h
    | out e₀ L t H =>
      cases e₀ with
      | normal => exact .inl ⟨L, t, H, rfl, h⟩
      | exit i => cases h; exact .inr ⟨(by simp), rfl⟩
      | goto l => cases h; exact .inr ⟨(by simp), rfl⟩
      | ret => cases h; exact .inr ⟨(by simp), rfl⟩

section
variable {rec : Job → Option Res} {T : FrP} {L L' : Loc} {t t' : Tr AV} {H H' : Hp} {e : Ex}

theorem seq_ok (rok : RecOk P rec) {x y : Code} (h : thenR (fun L t H => rec (.code y T L t H)) (rec (.code x T L t H)) = some (.out e L' t' H')) : CodeOk P [.code (.seq x y)] T L t H e L' t' H' := by
  intro s φ b a w k cs hat
  rcases thenR_out h with ⟨L₁, t₁, H₁, h1, h2⟩ | ⟨hn, h1⟩
  · obtain ⟨φ₁, a₁, w₁, hat₁, e₁, r₁⟩ := rok.code _ _ _ _ _ _ _ _ _ h1 s φ b a w (.code y :: k) cs hat
    obtain ⟨φ₂, a₂, w₂, hat₂, e₂, r₂⟩ := rok.code _ _ _ _ _ _ _ _ _ h2 s φ₁ b a₁ w₁ k cs hat₁
    exact ⟨φ₂, a₂, w₂, hat₂, e₁.trans e₂, .of_steps (.head stepR_seq r₁) r₂⟩
  · obtain ⟨φ₁, a₁, w₁, hat₁, e₁, r₁⟩ := rok.code _ _ _ _ _ _ _ _ _ h1 s φ b a w (.code y :: k) cs hat
    exact ⟨φ₁, a₁, w₁, hat₁, e₁, .of_steps (.one stepR_seq) (r₁.past hn (fun _ _ => rfl) (fun _ _ => rfl))⟩

theorem loop_ok (rok : RecOk P rec) {x : Code} (h : thenR (fun L t H => rec (.code (.loop x) T L t H)) (rec (.code x T L t H)) = some (.out e L' t' H')) : CodeOk P [.code (.loop x)] T L t H e L' t' H' := by
  intro s φ b a w k cs hat
  rcases thenR_out h with ⟨L₁, t₁, H₁, h1, h2⟩ | ⟨hn, h1⟩
  · obtain ⟨φ₁, a₁, w₁, hat₁, e₁, r₁⟩ := rok.code _ _ _ _ _ _ _ _ _ h1 s φ b a w (.inLoop x :: k) cs hat
    obtain ⟨φ₂, a₂, w₂, hat₂, e₂, r₂⟩ := rok.code _ _ _ _ _ _ _ _ _ h2 s φ₁ b a₁ w₁ k cs hat₁
    exact ⟨φ₂, a₂, w₂, hat₂, e₁.trans e₂, .of_steps (.head stepR_loop r₁) r₂.loop⟩
  · obtain ⟨φ₁, a₁, w₁, hat₁, e₁, r₁⟩ := rok.code _ _ _ _ _ _ _ _ _ h1 s φ b a w (.inLoop x :: k) cs hat
    exact ⟨φ₁, a₁, w₁, hat₁, e₁, .of_steps (.one stepR_loop) (r₁.past hn (fun _ _ => rfl) (fun _ _ => rfl))⟩

theorem cond_ok (rok : RecOk P rec) {c : Operand} {x y : Code} (h : pickCode rec x y T L t H (asBool (evo (opd P T c) L t)) = some (.out e L' t' H')) : CodeOk P [.code (.cond c x y)] T L t H e L' t' H' := by
  intro s φ b a w k cs hat
  cases hb : asBool (evo (opd P T c) L t) with
  | none => rw [hb] at h; cases h
  | some s =>
    rw [hb] at h
    have hv := evo_rel hat.hr.glob hat.tr c
    rw [asBool_some hb] at hv
    have hv := rel_bool hv
    have hs := stepR_cond (P := P) (b := b) (k := k) (cs := cs) (w := w) (x := x) (y := y) hv
    cases s with
    | true =>
      obtain ⟨φ₁, a₁, w₁, hat₁, e₁, r₁⟩ := rok.code _ _ _ _ _ _ _ _ _ h s φ b a w k cs hat
      exact ⟨φ₁, a₁, w₁, hat₁, e₁, .of_steps (.one hs) r₁⟩
    | false =>
      obtain ⟨φ₁, a₁, w₁, hat₁, e₁, r₁⟩ := rok.code _ _ _ _ _ _ _ _ _ h s φ b a w k cs hat
      exact ⟨φ₁, a₁, w₁, hat₁, e₁, .of_steps (.one hs) r₁⟩

theorem block_ok (rok : RecOk P rec) {id : Nat} {x : Code} (h : inBlock id (rec (.code x T L t H)) = some (.out e L' t' H')) : CodeOk P [.code (.block id x)] T L t H e L' t' H' := by
  intro s φ b a w k cs hat
  have go : ∀ {e₀ L₀ t₀ H₀}, rec (.code x T L t H) = some (.out e₀ L₀ t₀ H₀) → _ := fun h1 => rok.code _ _ _ _ _ _ _ _ _ h1 s φ b a w (.inBlock id :: k) cs hat
  unfold inBlock at h
  split at h
  · rename_i i L₀ t₀ H₀ h1
    obtain ⟨φ₁, a₁, w₁, hat₁, e₁, q, hq, hs⟩ := go h1
    have hb := beq_nat i id
    by_cases hi : i = id
    · subst hi
      simp only [hb, decide_true] at h
      cases h
      exact ⟨φ₁, a₁, w₁, hat₁, e₁, Steps.head stepR_block (hs.trans (.one (stepR_exit (by rw [hq]; simp [exitTo]))))⟩
    · simp only [hb, hi, decide_false] at h
      cases h
      refine ⟨φ₁, a₁, w₁, hat₁, e₁, q, ?_, .head stepR_block hs⟩
      rw [hq]
      have : (id == i) = false := by simpa using fun e => hi e.symm
      simp [exitTo, this]
  · rename_i r hne
    obtain ⟨φ₁, a₁, w₁, hat₁, e₁, r₁⟩ := go h
    cases e with
    | normal => exact ⟨φ₁, a₁, w₁, hat₁, e₁, Steps.head stepR_block (Steps.trans r₁ (.one stepR_inBlock))⟩
    | exit i => exact absurd h (hne _ _ _ _)
    | goto l => exact ⟨φ₁, a₁, w₁, hat₁, e₁, .of_steps (.one stepR_block) (r₁.past (by simp) (fun _ h => by cases h) (fun _ _ => rfl))⟩
    | ret => exact ⟨φ₁, a₁, w₁, hat₁, e₁, .of_steps (.one stepR_block) (r₁.past (by simp) (fun _ h => by cases h) (fun _ h => by cases h))⟩

theorem scope_ok (rok : RecOk P rec) {x c : Code} (h : inScope rec x T (rec (.code c T L t H)) = some (.out e L' t' H')) : CodeOk P [.code c, .inScope x] T L t H e L' t' H' := by
  intro s φ b a w k cs hat
  have go : ∀ {e₀ L₀ t₀ H₀}, rec (.code c T L t H) = some (.out e₀ L₀ t₀ H₀) → _ := fun h1 => rok.code _ _ _ _ _ _ _ _ _ h1 s φ b a w (.inScope x :: k) cs hat
  unfold inScope at h
  split at h
  · rename_i l L₀ t₀ H₀ h1
    obtain ⟨φ₁, a₁, w₁, hat₁, e₁, q, hq, hs⟩ := go h1
    split at h
    · rename_i c' hc
      obtain ⟨φ₂, a₂, w₂, hat₂, e₂, r₂⟩ := rok.scope _ _ _ _ _ _ _ _ _ _ h s φ₁ b a₁ w₁ k cs hat₁
      exact ⟨φ₂, a₂, w₂, hat₂, e₁.trans e₂, .of_steps (Steps.trans hs (.one (stepR_goto (by rw [hq]; simp [gotoIn, hc])))) r₂⟩
    · rename_i hc
      cases h
      refine ⟨φ₁, a₁, w₁, hat₁, e₁, q, ?_, hs⟩
      rw [hq]; simp [gotoIn, hc]
  · rename_i r hne
    obtain ⟨φ₁, a₁, w₁, hat₁, e₁, r₁⟩ := go h
    cases e with
    | normal => exact ⟨φ₁, a₁, w₁, hat₁, e₁, Steps.trans r₁ (.one stepR_inScope)⟩
    | goto l => exact absurd h (hne _ _ _ _)
    | exit i => exact ⟨φ₁, a₁, w₁, hat₁, e₁, r₁.past (by simp) (fun _ _ => rfl) (fun _ h => by cases h)⟩
    | ret => exact ⟨φ₁, a₁, w₁, hat₁, e₁, r₁.past (by simp) (fun _ h => by cases h) (fun _ h => by cases h)⟩

theorem region_ok (hF : Fit P) (rok : RecOk P rec) {id : Nat} {ops : Array Oper} (h : runRegion P T rec t H (layOps P T ops.toList ops.toList) = some (.out e L' t' H')) :
    CodeOk P [.code (.region id ops false)] T L t H e L' t' H' := by
  intro s φ b a w k cs hat
  cases hq : layOps P T ops.toList ops.toList with
  | none => rw [hq] at h; cases h
  | some q =>
    rw [hq] at h
    have h : toRes (runOps P T rec q .nil t H) = some (.out e L' t' H') := h
    cases hr : runOps P T rec q .nil t H with
    | none => rw [hr] at h; cases h
    | some p =>
      obtain ⟨L₁, t₁, H₁⟩ := p
      rw [hr] at h
      cases h
      obtain ⟨φ', a', w', h1, h2, h3⟩ := ops_rel hF rok ops.toList 0 q (by simp) hq _ _ _ _ _ _ hr s φ b a w k cs hat.nil
      exact ⟨φ', a', w', h1, h2, Steps.head stepR_region (by simpa using h3)⟩
end

end
end Go.Sx
