/- A drawn region, whole; then the machine, whole. -/
import Derived.Test.YtmkcndaidopkpaaGreatDoorSx24
namespace Go.Sx
noncomputable section
variable {P : Program}

section
variable {T : FrP} {rec : Job → Option Res} {ops : Array Oper} {rows : List Row} {S : Nat → St} {φ₀ : Em} {w₀ : World} {H₀ : Hp} {D : Nat → Prop} {p : Nat} {φ : Em} {a : Act} {w : World}

/-- a look tells the same, wherever it comes. -/
theorem look_same (cn : Canon P T rec ops rows S) (st : Start T ops S H₀) (inv : Inv P T ops rows S φ₀ w₀ H₀ D p φ a w) {j : Nat} {o : Oper} {y : Row} (ho : ops[j]? = some o) (hy : rows[j]? = some y) (hna : y.acts = false) (hnD : ¬ D j) (hanc : ∀ k, Anc rows j k → D k)
    {B : Hp} {r : List Hp} {v : AV} (hhs : (S j).hs = B :: r) (hx : exec P T (lay P T o.op) (S j).L (S j).t B = some (.val v)) (hpast : pastOk P T (lay P T o.op) (S j).L (S j).t v (firstOf y.anc rows 0) r = true)
    (hps : (S (j + 1)).ps = ⟨lay P T o.op, (S j).L, (S j).t, v, lastOf j rows⟩ :: (S j).ps) : exec P T (lay P T o.op) (S j).L (S j).t (S p).H = some (.val v) := by
  have hj : j < ops.size := (Array.getElem?_eq_some_iff.1 ho).1
  obtain ⟨tl, htl⟩ := hs_head cn st.hs inv.le inv.bd
  have hlen := hs_len cn ⟨_, st.hs⟩ p inv.le
  have hfirst : firstOf y.anc rows 0 ≤ nacts rows p := by
    have := firstOf_le (anc := y.anc) (l := rows) (k := 0) (p := p) (fun i x hx hxa hb => by
      rw [Nat.zero_add] at hb ⊢
      exact (inv.acts i ⟨x, hx, hxa⟩).1 (hanc i ⟨y, hy, hb⟩))
    simpa [nacts] using this
  have hlast : nacts rows p ≤ lastOf j rows := by
    have := lastOf_ge (j := j) (l := rows) (k := 0) (p := p) (fun i x hx hxa hip => by
      rw [Nat.zero_add] at hip
      have hD := (inv.acts i ⟨x, hx, hxa⟩).2 hip
      cases hb : Nat.testBit x.anc j with
      | false => rfl
      | true => exact absurd (inv.clo i hD j ⟨x, hx, hb⟩) hnD)
    simpa [nacts] using this
  by_cases hpj : p ≤ j
  · obtain ⟨pre, hpre⟩ := hs_pre cn (j - p) p (by omega)
    rw [show p + (j - p) = j by omega, hhs, htl] at hpre
    cases pre with
    | nil =>
      simp only [List.nil_append, List.cons.injEq] at hpre
      rw [← hpre.1]; exact hx
    | cons z pre =>
      simp only [List.cons_append, List.cons.injEq] at hpre
      rw [hpre.2] at hpast
      refine sameVal_some (pastOk_mem hpast ?_)
      rw [htl, List.length_cons] at hlen
      omega
  · rcases inv.bd with e | ⟨i, e, hi⟩
    · omega
    · have hij : i ≠ j := by
        rintro rfl
        obtain ⟨z, hz, hza⟩ := hi
        rw [hy] at hz; cases hz
        rw [hna] at hza; cases hza
      have hji : j + 1 ≤ i := by omega
      have hin : i < ops.size := by have := inv.le; omega
      obtain ⟨pre, hpre⟩ := ps_pre cn (i - (j + 1)) (j + 1) (by omega)
      rw [show j + 1 + (i - (j + 1)) = i by omega, hps] at hpre
      have hmem : (⟨lay P T o.op, (S j).L, (S j).t, v, lastOf j rows⟩ : Pend) ∈ (S i).ps := by rw [hpre]; simp
      have hoi : ops[i]? = some ops[i] := by simp [hin]
      obtain ⟨z, hz, hza⟩ := hi
      obtain ⟨y', gd, g, v', hy', _, _, _, _, hd⟩ := cn.step i _ hoi
      rw [hz] at hy'; cases hy'
      have hstage : (S i).hs.length = nacts rows p := by
        rw [hs_len cn ⟨_, st.hs⟩ i (by omega), e, nacts_succ hz, if_pos hza]; omega
      have done : pendOk P T (S i).hs.length (S (i + 1)).H (S i).ps = true → exec P T (lay P T o.op) (S j).L (S j).t (S p).H = some (.val v) := fun h => by
        have := pendOk_mem h hmem (by rw [hstage]; exact hlast)
        rw [e]
        exact sameVal_some this
      cases hd with
      | actSkip _ _ _ _ _ _ _ h => exact done h
      | act _ _ _ _ _ _ _ _ h => exact done h
      | skip h => exact absurd (show z.acts = false from h) (by simp [hza])
      | look _ _ h => exact absurd (show z.acts = false from h) (by simp [hza])
      | pure h => exact absurd (show z.acts = false from h) (by simp [hza])
      | news _ h => exact absurd (show z.acts = false from h) (by simp [hza])

theorem kind_of {o : Oper} {ms : List Nat} {all : List Oper} {y : Row} (hy : y = rowOf P all ms o) (h1 : y.acts = false) (h2 : y.looks = false) : kindOf P o.op = .pure ∨ kindOf P o.op = .news := by
  subst hy
  have h1 : isActs (kindOf P o.op) = false := h1
  have h2 : isLooks (kindOf P o.op) = false := h2
  cases hk : kindOf P o.op with
  | pure => exact .inl rfl
  | news => exact .inr rfl
  | looks => rw [hk] at h2; cases h2
  | acts => rw [hk] at h1; cases h1

theorem drawn_step (hF : Fit P) (rok : RecOk P rec) (cn : Canon P T rec ops rows S) (st : Start T ops S H₀) (inv : Inv P T ops rows S φ₀ w₀ H₀ D p φ a w) {j : Nat} (hj : j < ops.size) (hnD : ¬ D j) (hanc : ∀ k, Anc rows j k → D k)
    (b : Frame) (k : List Item) (cs : List Frame) (l : List Nat) :
    ∃ p' φ' a' w', Inv P T ops rows S φ₀ w₀ H₀ (fun x => D x ∨ x = j) p' φ' a' w' ∧ a'.defers = a.defers ∧ Steps P (lone (b.atR a (.inRegion ops (j :: l) :: k)) cs w) (lone (b.atR a' (.inRegion ops l :: k)) cs w') := by
  have ho : ops[j]? = some ops[j] := by simp [hj]
  generalize ops[j] = o at ho
  obtain ⟨y, gd, g, v, hy, hgd, hgs, hL, ht, hd⟩ := cn.step j o ho
  obtain ⟨ms, hrow⟩ := cn.tb.row j o ho
  rw [hy] at hrow
  have hrow := Option.some.inj hrow
  have hwant := wanted_rel (a := a) hgd hgs (fun d i wv hg hdd => inv.tm d j (by omega) (writers cn.tb inv hy hnD hanc (by rw [hrow]; exact nm_guard hg hdd)))
  have hρ := only_rel cn.tb inv ho hnD hanc
  have skipStep : g = false → Go.step P (lone (b.atR a (.inRegion ops (j :: l) :: k)) cs w) = .next (lone (b.atR (a.put o.dst undef) (.inRegion ops l :: k)) cs w) := fun hg => by
    have hstep := stepR_op_skip (P := P) (b := b) (a := a) (k := k) (cs := cs) (w := w) (ops := ops) (i := j) (rest := l) (by simp [ho, hwant, hg])
    simp only [ho, Option.bind_some] at hstep
    exact hstep
  cases hd with
  | actSkip hya hg hv hH _ _ _ _ _ =>
    have ha : Acts rows j := ⟨y, hy, hya⟩
    obtain ⟨_, _, hr⟩ := act_heap cn inv hj hnD hanc ha
    exact ⟨j + 1, φ, _, w, inv_actSkip cn st inv ho hnD hanc hL ht ha (by rw [hv]; exact .undef undef) (by rw [hH]; exact hr) (by rw [hH]; exact Ext.refl _ _ _), put_defers' _ _ _, .one (skipStep hg)⟩
  | act x hya hg hx hres _ _ _ _ _ =>
    have ha : Acts rows j := ⟨y, hy, hya⟩
    obtain ⟨_, _, hr⟩ := act_heap cn inv hj hnD hanc ha
    have hop := xop_rel hF hr hρ o (only_eq (lay_rel hx))
    obtain ⟨φ', v', w', h1, h2, h3, h4⟩ := op_step (b := b) (k := k) (cs := cs) (rest := l) rok hr hop hres ho (by rw [hwant, hg]) (lay_nodefer hx)
    exact ⟨j + 1, φ', _, w', inv_actSkip cn st inv ho hnD hanc hL ht ha h1 h2 h3, put_defers' _ _ _, h4⟩
  | skip hya hg hv hH _ _ hnm =>
    have hna : ¬ Acts rows j := fun ⟨z, hz, hza⟩ => by rw [hy] at hz; cases hz; exact absurd (show y.acts = false from hya) (by simp [hza])
    exact ⟨p, φ, _, w, inv_quiet cn st inv ho hnD hanc hL ht hna hnm (by rw [hv]; exact .undef undef) (Same.refl w), put_defers' _ _ _, .one (skipStep hg)⟩
  | look B r hya hyl hg hhs hx hpast _ _ hps hnm =>
    have hna : ¬ Acts rows j := fun ⟨z, hz, hza⟩ => by rw [hy] at hz; cases hz; exact absurd (show y.acts = false from hya) (by simp [hza])
    have hx' := look_same cn st inv ho hy hya hnD hanc hhs hx hpast hps
    have hr : HRel P φ (S p).H w := inv.gr.heap (fun x u h => .inl h) rfl
    obtain ⟨n, v', w', h1, h2, h3, h4⟩ := xop_rel hF hr hρ o (only_eq (lay_rel hx'))
    exact ⟨p, φ, _, w', inv_quiet cn st inv ho hnD hanc hL ht hna hnm h3 h4, put_defers' _ _ _, .one (step_gives ho (by rw [hwant, hg]) (lay_nodefer hx) h1 h2)⟩
  | pure hya hyl hg hx hH _ _ hnm =>
    have hna : ¬ Acts rows j := fun ⟨z, hz, hza⟩ => by rw [hy] at hz; cases hz; exact absurd (show y.acts = false from hya) (by simp [hza])
    have hx' := only_eq (lay_rel hx)
    rcases kind_of hrow hya hyl with hk | hk
    · obtain ⟨u, hu, hrun⟩ := pure_rel hρ hk hx'
      cases hu
      obtain ⟨v', h1, h2⟩ := hrun w
      exact ⟨p, φ, _, w, inv_quiet cn st inv ho hnD hanc hL ht hna hnm h2 (Same.refl w), put_defers' _ _ _, .one (step_gives ho (by rw [hwant, hg]) (lay_nodefer hx) h1 (.inl rfl))⟩
    · obtain ⟨u, ob, hu, _⟩ := news_rel hρ hk hx'
      cases hu
  | news ob hya hyl hg hx hH _ _ hnm =>
    have hna : ¬ Acts rows j := fun ⟨z, hz, hza⟩ => by rw [hy] at hz; cases hz; exact absurd (show y.acts = false from hya) (by simp [hza])
    have hx' := only_eq (lay_rel hx)
    rcases kind_of hrow hya hyl with hk | hk
    · obtain ⟨u, hu⟩ := xop_pure_val hk hx'
      cases hu
    · obtain ⟨u, ob', hu, hrun⟩ := news_rel hρ hk hx'
      cases hu
      obtain ⟨obj, pl, v', w', h1, h2, h3, h4, h5⟩ := hrun w
      exact ⟨p, _, _, w', inv_news cn st inv ho hnD hanc hL ht hna hnm hH h2 h3 h4 h5, put_defers' _ _ _, .one (step_gives ho (by rw [hwant, hg]) (lay_nodefer hx) h1 (.inl rfl))⟩

theorem drawn_all (hF : Fit P) (rok : RecOk P rec) (cn : Canon P T rec ops rows S) (st : Start T ops S H₀) (b : Frame) (k : List Item) (cs : List Frame) {D : Nat → Prop} {l : List Nat} (hs : Sched rows ops.size D l) :
    ∀ p φ a w, Inv P T ops rows S φ₀ w₀ H₀ D p φ a w → ∃ p' φ' a' w' D', (∀ i, i < ops.size → D' i) ∧ Inv P T ops rows S φ₀ w₀ H₀ D' p' φ' a' w' ∧ a'.defers = a.defers ∧
      Steps P (lone (b.atR a (.inRegion ops l :: k)) cs w) (lone (b.atR a' k) cs w') := by
  induction hs with
  | nil D h => exact fun p φ a w inv => ⟨p, φ, a, w, D, h, inv, rfl, .one stepR_region_end⟩
  | cons D i l hi hn hanc _ ih =>
    intro p φ a w inv
    obtain ⟨p₁, φ₁, a₁, w₁, inv₁, hd₁, hs₁⟩ := drawn_step hF rok cn st inv hi hn hanc b k cs l
    obtain ⟨p', φ', a', w', D', h1, h2, h3, h4⟩ := ih p₁ φ₁ a₁ w₁ inv₁
    exact ⟨p', φ', a', w', D', h1, h2, h3.trans hd₁, hs₁.trans h4⟩
end

theorem drawn_ok (hF : Fit P) {rec : Job → Option Res} (rok : RecOk P rec) {T : FrP} {L L' : Loc} {t t' : Tr AV} {H H' : Hp} {e : Ex} {id : Nat} {ops : Array Oper}
    (h : toRes (runDrawn P T rec t H ops) = some (.out e L' t' H')) : CodeOk P [.code (.region id ops true)] T L t H e L' t' H' := by
  intro s φ b a w k cs hat
  cases hr : runDrawn P T rec t H ops with
  | none => rw [hr] at h; cases h
  | some q =>
    obtain ⟨L₁, t₁, H₁⟩ := q
    rw [hr] at h
    cases h
    unfold runDrawn at hr
    split at hr
    · rename_i q hq
      split at hr
      · rename_i s₁ hs₁
        cases hr
        obtain ⟨S, cn, h0, hN⟩ := canon_of hq hs₁
        have hget : ∀ x : K, H.next.toNat ≤ x.toNat → H.get x = none := fun x hx => by
          cases hg : H.get x with
          | none => rfl
          | some u =>
            obtain ⟨pl, _, hp, _⟩ := hat.hr.obj x u hg
            have := hat.hr.dom x pl hp
            omega
        have st : Start T ops S H := by
          refine ⟨by rw [h0], fun x hx => ?_, by rw [h0]; exact Nat.le_refl _, by rw [h0]; show H.next.toNat + ops.size ≤ (skip ops.size H.next).toNat; rw [skip_toNat]; exact Nat.le_refl _, fun x hx => ?_⟩
          · rw [h0] at hx ⊢; exact hget x hx
          · unfold E; rw [h0]; exact hat.nil.tr.out x hx
        let w₁ : World := { w with drawn := w.drawn + 1 }
        have hsame : Same w w₁ := ⟨rfl, rfl, rfl, rfl⟩
        have hH0 : ∀ x u, (S 0).H.get x = some u → H.get x = some u := fun x u hx => by rw [h0] at hx; exact hx
        have inv : Inv P T ops (rowsOf P ops.toList ops.toList []) S φ w H (fun _ => False) 0 φ a w₁ := by
          have hG : ∀ x u, GA S (fun _ => False) 0 x u → H.get x = some u := by
            rintro x u (h | ⟨_, h, _⟩)
            · exact hH0 x u h
            · exact h.elim
          refine ⟨Nat.zero_le _, .inl rfl, fun _ h => h.elim, fun i _ => by simp, fun _ h => h.elim, hat.tr.size, fun x j hj hw => ?_, ⟨fun x u hx => hat.hr.obj x u (hG x u hx), fun x y u u' q q' hx hy => hat.hr.inj x y u u' q q' (hG x u hx) (hG y u' hy), fun x q hq => ?_, hat.hr.glob⟩,
            fun i x u hi _ hn => ?_, Nat.le_refl _, ⟨Le.refl φ, Nat.le_refl _, fun _ _ _ => rfl, fun c ⟨x, u, q, hx, hq, hc⟩ => .inl ⟨x, u, q, hG x u hx, hq, hc⟩, fun x q hq => .inl hq, rfl, rfl, rfl, fun _ _ h => h⟩⟩
          · have : E T S j x = E T S 0 x := by
              have := env_const cn (x := x) j 0 (by omega) (fun k u _ hk hu hdu => by
                have := (hw k u hu hdu).2 (by omega)
                exact this.elim)
              rwa [Nat.zero_add] at this
            rw [this]
            unfold E; rw [h0]; exact hat.nil.tr.rel x
          · have := hat.hr.dom x q hq
            have := st.nm
            have := st.nx
            omega
          · cases hφ : φ x with
            | none => rfl
            | some q =>
              have := hat.hr.dom x q hφ
              have := (news_lt cn hi hn).1
              have := st.nm
              omega
        have hsched := sched_of cn.tb (w.tape w.drawn (.order b.fn id))
        obtain ⟨p', φ', a', w', D', hD', inv', hdf, hsteps⟩ := drawn_all hF rok cn st b k cs hsched 0 φ a w₁ inv
        have hfin : (S ops.size).H.next = (S p').H.next ∧ ∀ x u, (S ops.size).H.get x = some u → GA S D' p' x u := by
          have hle := inv'.le
          obtain ⟨h4, h5⟩ := heap_between cn (ops.size - p') p' (by omega) (fun i h1 h2 hi => by
            have := (inv'.acts i hi).1 (hD' i (by omega))
            omega)
          rw [show p' + (ops.size - p') = ops.size by omega] at h4 h5
          refine ⟨h4, fun x u hx => ?_⟩
          rcases h5 x u hx with h | ⟨i, h1, h2, h3⟩
          · exact .inl h
          · exact .inr ⟨i, hD' i h2, h1, h3⟩
        have hH : HRel P φ' s₁.H w' := by
          rw [← hN]
          exact inv'.gr.heap hfin.2 hfin.1
        have hext : Ext φ φ' H s₁.H w w' := by
          refine ⟨inv'.ex.le, ?_, inv'.ex.size, inv'.ex.frame, fun c ⟨x, u, q, hx, hq, hc⟩ => inv'.ex.lies c ⟨x, u, q, hfin.2 x u (by rw [hN]; exact hx), hq, hc⟩, inv'.ex.dom, inv'.ex.os, inv'.ex.output, inv'.ex.tape, inv'.ex.keeps⟩
          rw [← hN, hfin.1]
          have := inv'.nx
          have := st.nm
          have := st.nx
          omega
        refine ⟨φ', a', w', ⟨⟨inv'.size, fun x => ?_, fun x hx => ?_⟩, hH, by rw [hdf]; exact hat.df.ext hext, hat.rn⟩, hext, Steps.head stepR_region_draw hsteps⟩
        · have := inv'.tm x ops.size (Nat.le_refl _) (fun i u hu _ => by
            have := (Array.getElem?_eq_some_iff.1 hu).1
            simp [hD' i this, this])
          unfold E at this
          rw [hN] at this
          exact this
        · have := env_out cn st hx ops.size (Nat.le_refl _)
          unfold E at this
          rw [hN] at this
          exact this
      · cases hr
    · cases hr

/-! ## all of it -/
theorem stepCode_ok (hF : Fit P) {rec : Job → Option Res} (rok : RecOk P rec) {c : Code} {T : FrP} {L L' : Loc} {t t' : Tr AV} {H H' : Hp} {e : Ex}
    (h : stepCode P c T L t H rec = some (.out e L' t' H')) : CodeOk P [.code c] T L t H e L' t' H' := by
  cases c with
  | skip =>
    cases h
    exact fun s φ b a w k cs hat => ⟨φ, a, w, hat, Ext.refl _ _ _, .one stepR_skip⟩
  | region id ops draw =>
    cases draw with
    | false => exact region_ok hF rok h
    | true => exact drawn_ok hF rok h
  | seq x y => exact seq_ok rok h
  | cond c x y => exact cond_ok rok h
  | block id x => exact block_ok rok h
  | loop x => exact loop_ok rok h
  | rangeFunc f ps as b => exact range_ok hF rok h
  | exit id =>
    cases h
    exact fun s φ b a w k cs hat => ⟨φ, a, w, hat, Ext.refl _ _ _, k, rfl, Steps.refl _ _⟩
  | scope x =>
    intro s φ b a w k cs hat
    obtain ⟨φ', a', w', h1, h2, h3⟩ := rok.scope _ _ _ _ _ _ _ _ _ _ h s φ b a w k cs hat
    exact ⟨φ', a', w', h1, h2, .of_steps (.one stepR_scope) h3⟩
  | label l =>
    cases h
    exact fun s φ b a w k cs hat => ⟨φ, a, w, hat, Ext.refl _ _ _, .one stepR_label⟩
  | goto l =>
    cases h
    exact fun s φ b a w k cs hat => ⟨φ, a, w, hat, Ext.refl _ _ _, k, rfl, Steps.refl _ _⟩
  | ret =>
    cases h
    exact fun s φ b a w k cs hat => ⟨φ, a, w, hat, Ext.refl _ _ _, k, Steps.refl _ _⟩
  | refuse why => cases h

theorem step_ok (hF : Fit P) {thr : FuncId → Nat} {rec : Job → Option Res} (rok : RecOk P rec) : RecOk P (step P thr rec) where
  code := fun _ _ _ _ _ _ _ _ _ h => stepCode_ok hF rok h
  scope := fun _ _ _ _ _ _ _ _ _ _ h => scope_ok rok h
  call := fun _ _ _ _ _ h => call_ok rok h
  yield := fun _ _ _ _ _ h => yield_ok rok h

theorem run_ok (hF : Fit P) (thr : FuncId → Nat) : ∀ n, RecOk P (run P thr n)
  | 0 => ⟨fun _ _ _ _ _ _ _ _ _ h => (nomatch h), fun _ _ _ _ _ _ _ _ _ _ h => (nomatch h), fun _ _ _ _ _ h => (nomatch h), fun _ _ _ _ _ h => (nomatch h)⟩
  | n + 1 => step_ok hF (run_ok hF thr n)

end
end Go.Sx
