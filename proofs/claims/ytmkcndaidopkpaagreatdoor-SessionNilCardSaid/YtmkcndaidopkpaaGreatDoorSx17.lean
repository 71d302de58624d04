/- Loops over functions, calls, rounds. -/
import Derived.Test.YtmkcndaidopkpaaGreatDoorSx16
namespace Go.Sx
noncomputable section
variable {P : Program}

/-! ## a loop over a function -/
theorem Lies.new_iff {φ : Em} {H : Hp} {o : AObj} {p : Pl} {b : Nat} (h : Lies (φ.with H.next p) (H.new o) b) : Lies φ H b ∨ b = p.blk := by
  obtain ⟨y, u, q, hy, hq, e⟩ := h
  by_cases ey : y = H.next
  · subst ey
    rw [Em.with_same] at hq; cases hq
    exact .inr e.symm
  · rw [Hp.get_new_ne _ _ ey] at hy
    rw [Em.with_ne _ _ ey] at hq
    exact .inl ⟨y, u, q, hy, hq, e⟩
theorem HRel.lies_lt {φ : Em} {H : Hp} {w : World} (r : HRel P φ H w) {b : Nat} (h : Lies φ H b) : b < w.heap.size := by
  obtain ⟨y, u, q, hy, hq, rfl⟩ := h
  exact r.live_lt hy hq

theorem enter_ok (hF : Fit P) {s : Nat} {φ : Em} {T : FrP} {L : Loc} {t : Tr AV} {H : Hp} {b : Frame} {a : Act} {w : World} {k : List Item} {cs : List Frame} {f : Operand} {ps : Array Tmp} {as body : Code}
    {g : FuncId} {args : List AV} (hat : At P s φ T L t H b a w) (hb : b.roundOf = none) (hx : xcallV P (evo (opd P T f) L t) [.yieldf H.next] = some (.call g args)) :
    ∃ φ₁ w₁ args' p, At P s φ₁ T .nil t (H.new (.loop .ready none 0 T t ps.toList as body)) b { a with defers := mark w.heap.size :: a.defers } w₁ ∧
      Ext φ φ₁ H (H.new (.loop .ready none 0 T t ps.toList as body)) w w₁ ∧ φ₁ H.next = some p ∧ VRels φ₁ args args'.toList ∧
      Go.step P (lone (b.atR a (.code (.rangeFunc f ps as body) :: k)) cs w) =
        .next (lone (Frame.enter P g args' .normal) (b.atR { a with defers := mark w.heap.size :: a.defers } (.inRangeFunc p.blk :: k) :: cs) w₁) := by
  let lp : Loop := { state := .ready, pending := none, fn := b.fn, tmps := a.tmps, params := ps, assign := as, body := body, defers := w.heap.size }
  let wd : World := { w with heap := w.heap.push (.deferred (some [])) }
  let w₁ : World := { w with heap := (w.heap.push (.deferred (some []))).push (.loop lp) }
  let p : Pl := ⟨w.heap.size + 1, 0, 0, none⟩
  have hn := hat.hr.none_next
  have hgrow : ∀ c, c < w.heap.size → wd.heap[c]? = w.heap[c]? := fun c hc => new_frame w _ c (by omega)
  have hrd : HRel P φ H wd := hat.hr.grow (fun c hc => hgrow c (hat.hr.lies_lt hc))
  have hle : Le φ (φ.with H.next p) := Em.le_with φ _ p hn
  have htr := (hat.tr.mono hle).nil
  have hrn : HRel P (φ.with H.next p) (H.new (.loop .ready none 0 T t ps.toList as body)) w₁ :=
    hrd.new (w' := w₁) (ob := .loop lp) rfl (by simp [p, wd]) (.loop .ready none 0 b.fn T t a.tmps ps as body w.heap.size htr)
  have he₁ : Ext φ φ H H w wd := ⟨Le.refl φ, Nat.le_refl _, (by simp [wd]), fun c hc _ => hgrow c hc, fun _ h => .inl h, fun _ _ h => .inl h, rfl, rfl, rfl, fun c u hu => by have hl := elemOf_lt hu; unfold elemOf at *; rw [hgrow c hl]; exact hu⟩
  have he₂ : Ext φ (φ.with H.next p) H (H.new (.loop .ready none 0 T t ps.toList as body)) wd w₁ := Ext.new hrd (ob := .loop lp) rfl (by simp [p, wd]) rfl rfl rfl
  have he := he₁.trans he₂
  have hfv := (evo_rel hat.hr.glob hat.tr f).mono hle
  have hargs : VRels (φ.with H.next p) [.yieldf H.next] (#[Value.func (.yield p.blk) #[] #[]] : Array Value).toList := .cons _ _ _ _ (.yieldf H.next p (Em.with_same _ _ _)) .nil
  obtain ⟨args', hrun, hrel⟩ := (callV_rel (x := H.next) (H := H.new (.loop .ready none 0 T t ps.toList as body)) (w := w₁) hF hfv hargs hx).1
  refine ⟨φ.with H.next p, w₁, args', p, ⟨htr, hrn, ?_, hat.rn⟩, he, Em.with_same _ _ _, hrel, ?_⟩
  · obtain ⟨hs0, rs, h1, h2, h3⟩ := hat.df.ext he
    obtain ⟨hs1, rs₀, h1₀, h2₀, h3₀⟩ := hat.df
    refine ⟨hs0, w.heap.size :: rs₀, List.nodup_cons.2 ⟨fun hm => ?_, h1₀⟩, by simp [h2₀], fun r hr => ?_⟩
    · have := (Array.getElem?_eq_some_iff.1 (h3₀ _ hm).1).1
      omega
    · rcases List.mem_cons.1 hr with rfl | hr
      · refine ⟨?_, fun hl => ?_, hs1⟩
        · show ((w.heap.push (.deferred (some []))).push (.loop lp))[w.heap.size]? = _
          rw [Array.getElem?_push_lt (by simp)]
          simp
        · rcases Lies.new_iff hl with hl | hl
          · have := hat.hr.lies_lt hl; omega
          · simp [p] at hl
      · have hds : rs = rs₀ := by
          have e : rs.map mark = rs₀.map mark := h2.symm.trans h2₀
          have inj : ∀ x y, mark x = mark y → x = y := fun x y e => by simp [mark] at e; exact e
          exact (List.map_inj_right (fun x y => inj x y)).1 e
        exact h3 r (hds ▸ hr)
  · refine step_lone_go ?_
    have hev := congrFun (Frame.eval_atR b { a with defers := mark w.heap.size :: a.defers } (.inRangeFunc p.blk :: k)) f
    have hent : (Instr.enterLoop b.fn a.tmps ps as body none).run P w = .ok (p.blk, [mark w.heap.size]) w₁ := by
      simp [Instr.enterLoop, mark, p, w₁, lp]
      rfl
    have hres : (do let d ← resolve (b.atR { a with defers := mark w.heap.size :: a.defers } (.inRangeFunc p.blk :: k)).eval { callee := .value f, args := #[.const (.func (.yield p.blk) #[] #[])], argTypes := #[] } 0; invoke d.target d.args : Sem Next).run P w₁ = .ok (.enter g args') w₁ := by
      rw [← hrun]
      have hmap : (#[Operand.const (.func (.yield p.blk) #[] #[])] : Array Operand).map (b.atR { a with defers := mark w.heap.size :: a.defers } (.inRangeFunc p.blk :: k)).eval = #[Value.func (.yield p.blk) #[] #[]] := by
        simp [Frame.eval]
      have hev' : Act.eval { a with defers := mark w.heap.size :: a.defers } f = a.eval f := by cases f <;> rfl
      simp only [resolve, hev, hmap, hev']
    simp only [Frame.atR, hb] at hres
    simp only [stepG, stepG.exec, Frame.atR, hb, Sem.runT_eq, hent, GStep.bare_after]
    simp only [stepG.apply, Sem.runT_eq, if_true, List.singleton_append, hres, GStep.bare_after]
    rfl

theorem endLoop_ok {w : World} {r : Nat} {l : Loop} (h : w.heap[r]? = some (.loop l)) (hs : l.state ≠ .busy) : (Instr.endLoop r).run P w = .ok l.pending { w with heap := w.heap.setIfInBounds r (.loop { l with state := .exhausted }) } := by
  simp [Instr.endLoop, run_getLoop h, hs, run_setObj h]

theorem finish_inRange {b : Frame} {a : Act} {k : List Item} {l : Nat} {v : Value} : (b.atR a (.inRangeFunc l :: k)).finish v = b.atR a (.endRangeFunc l :: k) := rfl
theorem step_endRange {b : Frame} {a : Act} {k : List Item} {cs : List Frame} {l : Nat} {w w' : World} {j : Option Code} (h : (Instr.endLoop l).run P w = .ok j w') :
    Go.step P (lone (b.atR a (.endRangeFunc l :: k)) cs w) = .next (lone (b.atR a ((j.map Item.code).toList ++ k)) cs w') :=
  step_lone_go (by simp [stepG, stepG.exec, Frame.atR, Sem.runT_eq, h])

/-- a loop that is over is not known any more. -/
theorem HRel.forget {φ : Em} {H : Hp} {w w' : World} (r : HRel P φ H w) {x : K} {p : Pl} {o : AObj} (hx : H.get x = some o) (hp : φ x = some p) (hf : ∀ c, c ≠ p.blk → w'.heap[c]? = w.heap[c]?) : HRel P φ (H.kill x) w' := by
  refine (r.kill x).grow (fun c hc => hf c ?_)
  obtain ⟨y, u, q, hy, hq, rfl⟩ := hc
  by_cases e : y = x
  · subst e; rw [Hp.get_kill_same] at hy; cases hy
  · rw [Hp.get_kill_ne _ e] at hy
    exact fun eb => e (r.inj y x u o q p hy hx hq hp eb)
theorem Ext.forget {φ : Em} {H : Hp} {w w' : World} {x : K} {p : Pl} {o : AObj} (hx : H.get x = some o) (hp : φ x = some p) (hf : ∀ c, c ≠ p.blk → w'.heap[c]? = w.heap[c]?)
    (hs : w'.heap.size = w.heap.size) (h1 : w'.os = w.os) (h2 : w'.output = w.output) (h3 : w'.tape = w.tape)
    (hk : ∀ e, elemOf w p.blk = some e → elemOf w' p.blk = some e) : Ext φ φ H (H.kill x) w w' where
  le := Le.refl φ
  next := Nat.le_refl _
  size := by omega
  frame := fun c _ hn => hf c (fun e => hn ⟨x, o, p, hx, hp, e.symm⟩)
  lies := fun c ⟨y, u, q, hy, hq, e⟩ => by
    by_cases ey : y = x
    · subst ey; rw [Hp.get_kill_same] at hy; cases hy
    · rw [Hp.get_kill_ne _ ey] at hy; exact .inl ⟨y, u, q, hy, hq, e⟩
  dom := fun _ _ h => .inl h
  os := h1
  output := h2
  tape := h3
  keeps := fun b e he => by
    by_cases eb : b = p.blk
    · subst eb; exact hk e he
    · unfold elemOf at *; rw [hf b eb]; exact he

theorem range_ok (hF : Fit P) {rec : Job → Option Res} (rok : RecOk P rec) {T : FrP} {L L' : Loc} {t t' : Tr AV} {H H' : Hp} {e : Ex} {f : Operand} {ps : Array Tmp} {as body : Code}
    (h : stepRange P rec f ps as body T L t H = some (.out e L' t' H')) : CodeOk P [.code (.rangeFunc f ps as body)] T L t H e L' t' H' := by
  intro s φ b a w k cs hat
  unfold stepRange at h
  split at h
  · rename_i g args hrnd hx
    have hb := hat.rn hrnd
    split at h
    · rename_i v H₂ hcall
      obtain ⟨φ₁, w₁, args', p, hat₁, he₁, hp₁, hargs, hstep⟩ := enter_ok (k := k) (cs := cs) (ps := ps) (as := as) (body := body) hF hat hb hx
      obtain ⟨en, w₂, fr, ⟨φ₂, v', rfl, _, hr₂, he₂⟩, hs₂, _, hl₂⟩ := rok.call _ _ _ _ _ hcall φ₁ w₁ args' hat₁.hr hargs (b.atR { a with defers := mark w.heap.size :: a.defers } (.inRangeFunc p.blk :: k) :: cs)
      have hp₂ := he₂.le _ _ hp₁
      have hback : Steps P (lone (b.atR a (.code (.rangeFunc f ps as body) :: k)) cs w) (lone (b.atR { a with defers := mark w.heap.size :: a.defers } (.endRangeFunc p.blk :: k)) cs w₂) := by
        refine .head hstep (Steps.trans hs₂ (.one ?_))
        rw [← finish_inRange (v := v')]
        exact step_leave_returned hl₂
      have key : ∀ {st pend fn T₀ t₀ qs as₀ b₀}, H₂.get H.next = some (.loop st pend fn T₀ t₀ qs as₀ b₀) → st ≠ .busy →
          ∃ w₃, At P s φ₂ T .nil t (H₂.kill H.next) b { a with defers := mark w.heap.size :: a.defers } w₃ ∧ Ext φ φ₂ H (H₂.kill H.next) w w₃ ∧
            Steps P (lone (b.atR a (.code (.rangeFunc f ps as body) :: k)) cs w) (lone (b.atR { a with defers := mark w.heap.size :: a.defers } ((pend.map Item.code).toList ++ k)) cs w₃) := by
        intro st pend fn T₀ t₀ qs as₀ b₀ hg hst
        obtain ⟨q, ob, hq, hw, ho⟩ := hr₂.obj _ _ hg
        rw [hp₂] at hq; cases hq
        cases ho with
        | loop _ _ _ fn' _ _ tmps ps' _ _ d htr =>
          have hend := endLoop_ok (P := P) hw hst
          have hf : ∀ c, c ≠ p.blk → (w₂.heap.setIfInBounds p.blk (.loop { state := .exhausted, pending := pend, fn := fn', tmps := tmps, params := ps', assign := as₀, body := b₀, defers := d }))[c]? = w₂.heap[c]? :=
            fun c hc => set_get_ne w₂ _ hc
          have hext := Ext.forget (w := w₂) (w' := { w₂ with heap := w₂.heap.setIfInBounds p.blk (.loop { state := .exhausted, pending := pend, fn := fn', tmps := tmps, params := ps', assign := as₀, body := b₀, defers := d }) }) hg hp₂ hf (by simp) rfl rfl rfl (fun e he => by simp [elemOf, hw] at he)
          refine ⟨_, ⟨hat₁.tr.mono he₂.le, hr₂.forget hg hp₂ hf, hat₁.df.ext (he₂.trans hext), hat.rn⟩, he₁.trans (he₂.trans hext), hback.trans (.one (step_endRange hend))⟩
      split at h
      · rename_i hg
        cases h
        obtain ⟨w₃, hat₃, he₃, hs₃⟩ := key hg (by simp)
        exact ⟨φ₂, _, w₃, hat₃, he₃, hs₃⟩
      · rename_i j _ _ _ _ _ _ hg
        obtain ⟨w₃, hat₃, he₃, hs₃⟩ := key hg (by simp)
        obtain ⟨φ₄, a₄, w₄, hat₄, he₄, hr₄⟩ := rok.code _ _ _ _ _ _ _ _ _ h s φ₂ b _ w₃ k cs hat₃
        exact ⟨φ₄, a₄, w₄, hat₄, he₃.trans he₄, .of_steps hs₃ hr₄⟩
      · cases h
    · cases h
  · cases h

end
end Go.Sx
