/- A drawn region, in any order that its table allows: one operation. -/
import Derived.Test.YtmkcndaidopkpaaGreatDoorSx23
namespace Go.Sx
noncomputable section
variable {P : Program} {T : FrP} {rec : Job → Option Res} {ops : Array Oper} {rows : List Row} {S : Nat → St} {φ₀ : Em} {w₀ : World} {H₀ : Hp} {D : Nat → Prop} {p : Nat} {φ : Em} {a : Act} {w : World}

theorem inv_clo (inv : Inv P T ops rows S φ₀ w₀ H₀ D p φ a w) {j : Nat} (hanc : ∀ k, Anc rows j k → D k) : ∀ i, (D i ∨ i = j) → ∀ k, Anc rows i k → (D k ∨ k = j) := by
  rintro i (h | rfl) k hk
  · exact .inl (inv.clo i h k hk)
  · exact .inl (hanc k hk)
theorem inv_dn (inv : Inv P T ops rows S φ₀ w₀ H₀ D p φ a w) {j : Nat} (hj : j < ops.size) : ∀ i, (D i ∨ i = j) → i < ops.size := by
  rintro i (h | rfl)
  · exact inv.dn i h
  · exact hj
theorem inv_acts (inv : Inv P T ops rows S φ₀ w₀ H₀ D p φ a w) {j : Nat} (hna : ¬ Acts rows j) : ∀ i, Acts rows i → ((D i ∨ i = j) ↔ i < p) := by
  intro i hi
  have : i ≠ j := fun e => hna (e ▸ hi)
  simp [this, inv.acts i hi]

/-- nothing happens to the heap. -/
theorem inv_quiet (cn : Canon P T rec ops rows S) (st : Start T ops S H₀) (inv : Inv P T ops rows S φ₀ w₀ H₀ D p φ a w) {j : Nat} {o : Oper} (ho : ops[j]? = some o) (hnD : ¬ D j) (hanc : ∀ k, Anc rows j k → D k) {v : AV} {v' : Value}
    (hL : (S (j + 1)).L = putL T (S j).L o.dst v) (ht : (S (j + 1)).t = putT T (S j).t o.dst v) (hna : ¬ Acts rows j) (hnm : (S (j + 1)).nm = (S j).nm) (hv : VRel φ v v') {w' : World} (hs : Same w w') :
    Inv P T ops rows S φ₀ w₀ H₀ (fun x => D x ∨ x = j) p φ (a.put o.dst v') w' := by
  have hj : j < ops.size := (Array.getElem?_eq_some_iff.1 ho).1
  have hG : ∀ x u, GA S (fun x => D x ∨ x = j) p x u → GA S D p x u := by
    rintro x u (h | ⟨i, hi | rfl, hp, hn⟩)
    · exact .inl h
    · exact .inr ⟨i, hi, hp, hn⟩
    · have := hn.2.1
      rw [hnm] at this
      have := congrArg K.toNat this
      rw [K.toNat_succ] at this
      omega
  exact ⟨inv.le, inv.bd, inv_dn inv hj, inv_acts inv hna, inv_clo inv hanc, by rw [put_size]; exact inv.size, tm_put cn st inv ho hnD hanc hL ht (Le.refl φ) hv, inv.gr.sub hG hs.1 rfl,
    fun i x u hi hni hn => inv.fr i x u hi (fun h => hni (.inl h)) hn, inv.nx, inv.ex.sub hG hs⟩

/-- an object is made ahead. -/
theorem inv_news (cn : Canon P T rec ops rows S) (st : Start T ops S H₀) (inv : Inv P T ops rows S φ₀ w₀ H₀ D p φ a w) {j : Nat} {o : Oper} (ho : ops[j]? = some o) (hnD : ¬ D j) (hanc : ∀ k, Anc rows j k → D k) {v : AV} {v' : Value}
    (hL : (S (j + 1)).L = putL T (S j).L o.dst v) (ht : (S (j + 1)).t = putT T (S j).t o.dst v) (hna : ¬ Acts rows j) {ob : AObj} (hnm : (S (j + 1)).nm = (S j).nm.succ) (hH : (S (j + 1)).H = (S j).H.put (S j).nm ob) {obj : Obj} {pl : Pl} {w' : World}
    (hw : w'.heap = w.heap.push obj) (hp : pl.blk = w.heap.size) (hr : w'.os = w.os ∧ w'.output = w.output ∧ w'.tape = w.tape) (hrel : φ (S j).nm = none → VRel (φ.with (S j).nm pl) v v' ∧ ORel (φ.with (S j).nm pl) pl ob obj) :
    Inv P T ops rows S φ₀ w₀ H₀ (fun x => D x ∨ x = j) p (φ.with (S j).nm pl) (a.put o.dst v') w' := by
  have hj : j < ops.size := (Array.getElem?_eq_some_iff.1 ho).1
  have hNews : News S j (S j).nm ob := ⟨rfl, hnm, hH⟩
  have hnone := inv.fr j _ _ hj hnD hNews
  obtain ⟨hv, hob⟩ := hrel hnone
  have hle := Em.le_with φ (S j).nm pl hnone
  have hlt := news_lt cn hj hNews
  have huniq : ∀ x u, News S j x u → x = (S j).nm ∧ u = ob := by
    rintro x u ⟨h1, _, h3⟩
    refine ⟨h1.symm, ?_⟩
    have e1 : (S (j + 1)).H.get x = some u := by rw [h3, Hp.get_put_same]
    rw [hH, ← h1, Hp.get_put_same] at e1
    exact (Option.some.inj e1).symm
  have hG : ∀ x u, GA S (fun x => D x ∨ x = j) p x u → GA S D p x u ∨ (x = (S j).nm ∧ u = ob) := by
    rintro x u (h | ⟨i, hi | rfl, hp, hn⟩)
    · exact .inl (.inl h)
    · exact .inl (.inr ⟨i, hi, hp, hn⟩)
    · exact .inr (huniq x u hn)
  have old : ∀ x u, GA S D p x u → x ≠ (S j).nm := by
    rintro x u h rfl
    obtain ⟨q, _, hq, _⟩ := inv.gr.obj _ _ h
    rw [hnone] at hq; cases hq
  have oldlt : ∀ x u q, GA S D p x u → φ x = some q → q.blk < w.heap.size := by
    intro x u q h hq
    obtain ⟨q', ob', hq', hw', _⟩ := inv.gr.obj _ _ h
    rw [hq] at hq'; cases hq'
    exact (Array.getElem?_eq_some_iff.1 hw').1
  refine ⟨inv.le, inv.bd, inv_dn inv hj, inv_acts inv hna, inv_clo inv hanc, by rw [put_size]; exact inv.size, tm_put cn st inv ho hnD hanc hL ht hle hv, ⟨fun x u h => ?_, fun x y u u' q q' h h' hq hq' he => ?_, fun x q hq => ?_, fun g hg => ?_⟩,
    fun i x u hi hni hn => ?_, inv.nx, ⟨inv.ex.le.trans hle, by rw [hw]; have := inv.ex.size; simp; omega, fun b hb hn => ?_, fun b ⟨x, u, q, h, hq, hb⟩ => ?_, fun x q hq => ?_, hr.1.trans inv.ex.os, hr.2.1.trans inv.ex.output, hr.2.2.trans inv.ex.tape, fun b u hu => ?_⟩⟩
  · rcases hG x u h with h | ⟨rfl, rfl⟩
    · obtain ⟨q, ob', hq, hw', hr'⟩ := inv.gr.obj _ _ h
      refine ⟨q, ob', hle _ _ hq, ?_, hr'.mono hle⟩
      rw [hw, new_frame w obj _ (by have := oldlt _ _ _ h hq; omega)]
      exact hw'
    · exact ⟨pl, obj, Em.with_same _ _ _, by rw [hw, hp]; exact new_same w obj, hob⟩
  · rcases hG x u h with h | ⟨rfl, rfl⟩ <;> rcases hG y u' h' with h' | ⟨rfl, rfl⟩
    · rw [Em.with_ne _ _ (old _ _ h)] at hq
      rw [Em.with_ne _ _ (old _ _ h')] at hq'
      exact inv.gr.inj x y u u' q q' h h' hq hq' he
    · rw [Em.with_ne _ _ (old _ _ h)] at hq
      rw [Em.with_same] at hq'; cases hq'
      have := oldlt _ _ _ h hq
      omega
    · rw [Em.with_ne _ _ (old _ _ h')] at hq'
      rw [Em.with_same] at hq; cases hq
      have := oldlt _ _ _ h' hq'
      omega
    · rfl
  · by_cases e : x = (S j).nm
    · subst e; have := st.nx; have := inv.nx; omega
    · rw [Em.with_ne _ _ e] at hq; exact inv.gr.dom x q hq
  · obtain ⟨row, h⟩ := inv.gr.glob g hg
    exact ⟨row, hle _ _ h⟩
  · have hij : i ≠ j := fun e => hni (.inr e)
    rw [Em.with_ne _ _ (news_ne cn hi hj hn hNews hij)]
    exact inv.fr i x u hi (fun h => hni (.inl h)) hn
  · rw [hw, new_frame w obj b (by have := inv.ex.size; omega)]
    exact inv.ex.frame b hb hn
  · rcases hG x u h with h | ⟨rfl, rfl⟩
    · rw [Em.with_ne _ _ (old _ _ h)] at hq
      exact inv.ex.lies b ⟨x, u, q, h, hq, hb⟩
    · rw [Em.with_same] at hq; cases hq
      right; have := inv.ex.size; omega
  · by_cases e : x = (S j).nm
    · subst e; right; have := st.nm; omega
    · rw [Em.with_ne _ _ e] at hq; exact inv.ex.dom x q hq
  · have hu' := inv.ex.keeps b u hu
    have hl := elemOf_lt hu'
    unfold elemOf at hu' ⊢
    rw [hw, new_frame w obj b (by omega)]
    exact hu'

theorem news_row (cn : Canon P T rec ops rows S) {i : Nat} (hi : i < ops.size) {x : K} {u : AObj} (h : News S i x u) {y : Row} (hy : rows[i]? = some y) : y.news = true := by
  have ho : ops[i]? = some ops[i] := by simp [hi]
  obtain ⟨y', gd, g, v, hy', _, _, _, _, hd⟩ := cn.step i _ ho
  rw [hy] at hy'; cases hy'
  have same : (S (i + 1)).nm = (S i).nm → False := fun e => by
    have := h.2.1
    rw [e] at this
    have := congrArg K.toNat this
    rw [K.toNat_succ] at this
    omega
  cases hd with
  | actSkip _ _ _ _ _ _ e => exact (same e).elim
  | act _ _ _ _ _ _ _ e => exact (same e).elim
  | skip _ _ _ _ _ _ e => exact (same e).elim
  | look _ _ _ _ _ _ _ _ _ _ _ e => exact (same e).elim
  | pure _ _ _ _ _ _ _ e => exact (same e).elim
  | news ob ha hl _ hx =>
    obtain ⟨ms, hrow⟩ := cn.tb.row i _ ho
    rw [hy] at hrow
    cases hrow
    have hx := lay_rel hx
    have ha : isActs (kindOf P ops[i].op) = false := ha
    have hl : isLooks (kindOf P ops[i].op) = false := hl
    show isNews (kindOf P ops[i].op) = true
    cases hk : kindOf P ops[i].op with
    | pure =>
      obtain ⟨v', e⟩ := xop_pure_val hk hx
      cases e
    | looks => rw [hk] at hl; cases hl
    | news => rfl
    | acts => rw [hk] at ha; cases ha

/-- one that acts: all that came ahead of it in the text and bears on it has come. -/
theorem act_place (cn : Canon P T rec ops rows S) (inv : Inv P T ops rows S φ₀ w₀ H₀ D p φ a w) {j : Nat} (hj : j < ops.size) (hnD : ¬ D j) (hanc : ∀ k, Anc rows j k → D k) (ha : Acts rows j) :
    p ≤ j ∧ (∀ k, p ≤ k → k < j → ¬ Acts rows k) ∧ (∀ i x u, i < j → News S i x u → D i) ∧ (∀ i, Acts rows i → (D i ↔ i < j)) := by
  obtain ⟨y, hy, hya⟩ := ha
  have key : ∀ i, Acts rows i → (D i ↔ i < j) := by
    rintro i ⟨z, hz, hza⟩
    rcases Nat.lt_trichotomy i j with h | h | h
    · rcases cn.tb.pair i j z y hz hy h with hA | ⟨_, _, h3⟩
      · simp [hanc i hA, h]
      · rw [(h3 hya).1] at hza; cases hza
    · subst h; simp [hnD]
    · rcases cn.tb.pair j i y z hy hz h with hA | ⟨_, _, h3⟩
      · have : ¬ D i := fun hD => hnD (inv.clo i hD j hA)
        simp [this]; omega
      · rw [(h3 hza).1] at hya; cases hya
  refine ⟨?_, fun k h1 h2 hk => ?_, fun i x u hi hn => ?_, key⟩
  · rcases inv.bd with e | ⟨i, e, hi⟩
    · omega
    · have h1 := (key i hi)
      have h2 := (inv.acts i hi)
      have : i < j := h1.1 (h2.2 (by omega))
      omega
  · have := (inv.acts k hk).1 ((key k hk).2 h2)
    omega
  · have hin : i < rows.length := by rw [cn.tb.len]; omega
    have hz : rows[i]? = some rows[i] := by simp [hin]
    have hnews := news_row cn (by omega) hn hz
    rcases cn.tb.pair i j _ y hz hy hi with hA | ⟨_, _, h3⟩
    · exact hanc i hA
    · rw [(h3 hya).2] at hnews; cases hnews

theorem act_heap (cn : Canon P T rec ops rows S) (inv : Inv P T ops rows S φ₀ w₀ H₀ D p φ a w) {j : Nat} (hj : j < ops.size) (hnD : ¬ D j) (hanc : ∀ k, Anc rows j k → D k) (ha : Acts rows j) :
    (S j).H.next = (S p).H.next ∧ (∀ x u, (S j).H.get x = some u → GA S D p x u) ∧ HRel P φ (S j).H w := by
  obtain ⟨h1, h2, h3, _⟩ := act_place cn inv hj hnD hanc ha
  obtain ⟨h4, h5⟩ := heap_between cn (j - p) p (by omega) (fun k a b => h2 k a (by omega))
  rw [show p + (j - p) = j by omega] at h4 h5
  have hG : ∀ x u, (S j).H.get x = some u → GA S D p x u := fun x u hx => by
    rcases h5 x u hx with h | ⟨i, a, b, c⟩
    · exact .inl h
    · exact .inr ⟨i, h3 i x u b c, a, c⟩
  exact ⟨h4, hG, inv.gr.heap hG h4⟩

theorem inv_actSkip (cn : Canon P T rec ops rows S) (st : Start T ops S H₀) (inv : Inv P T ops rows S φ₀ w₀ H₀ D p φ a w) {j : Nat} {o : Oper} (ho : ops[j]? = some o) (hnD : ¬ D j) (hanc : ∀ k, Anc rows j k → D k) {v : AV} {v' : Value}
    (hL : (S (j + 1)).L = putL T (S j).L o.dst v) (ht : (S (j + 1)).t = putT T (S j).t o.dst v) (ha : Acts rows j) {φ' : Em} {w' : World}
    (hv : VRel φ' v v') (hr' : HRel P φ' (S (j + 1)).H w') (he : Ext φ φ' (S j).H (S (j + 1)).H w w') :
    Inv P T ops rows S φ₀ w₀ H₀ (fun x => D x ∨ x = j) (j + 1) φ' (a.put o.dst v') w' := by
  have hj : j < ops.size := (Array.getElem?_eq_some_iff.1 ho).1
  obtain ⟨h1, h2, h3, hacts⟩ := act_place cn inv hj hnD hanc ha
  obtain ⟨hnext, hG, hr⟩ := act_heap cn inv hj hnD hanc ha
  have old : ∀ x u, GA S (fun x => D x ∨ x = j) (j + 1) x u → (S (j + 1)).H.get x = some u ∨ (GA S D p x u ∧ (S j).H.get x = none) := by
    rintro x u (h | ⟨i, hi | rfl, hp, hn⟩)
    · exact .inl h
    · refine .inr ⟨.inr ⟨i, hi, by omega, hn⟩, ?_⟩
      have hin := inv.dn i hi
      have := news_le cn (i := j) (j := i) (by omega) hin hn
      exact names_free cn st.free j (by omega) x this.1 (by omega)
    · omega
  have place : ∀ x u, GA S D p x u → (S j).H.get x = none → ∃ q ob, φ x = some q ∧ w.heap[q.blk]? = some ob ∧ ORel φ q u ob ∧ ¬ Lies φ (S j).H q.blk := by
    intro x u h hn
    obtain ⟨q, ob, hq, hw, ho⟩ := inv.gr.obj x u h
    refine ⟨q, ob, hq, hw, ho, ?_⟩
    rintro ⟨z, u', q', hz, hq', e⟩
    have := inv.gr.inj z x u' u q' q (hG z u' hz) h hq' hq e
    subst this
    rw [hn] at hz; cases hz
  refine ⟨hj, .inr ⟨j, rfl, ha⟩, inv_dn inv hj, fun i hi => ?_, inv_clo inv hanc, by rw [put_size]; exact inv.size, tm_put cn st inv ho hnD hanc hL ht he.le hv, ⟨fun x u h => ?_, fun x y u u' q q' h h' hq hq' e => ?_, hr'.dom, hr'.glob⟩,
    fun i x u hi hni hn => ?_, ?_, ⟨inv.ex.le.trans he.le, Nat.le_trans inv.ex.size he.size, fun b hb hn => ?_, fun b ⟨x, u, q, h, hq, hb⟩ => ?_, fun x q hq => ?_, he.os.trans inv.ex.os, he.output.trans inv.ex.output, he.tape.trans inv.ex.tape, fun b u hu => he.keeps b u (inv.ex.keeps b u hu)⟩⟩
  · have := hacts i hi
    by_cases e : i = j
    · subst e; simp
    · simp only [e, or_false, this]; omega
  · rcases old x u h with h | ⟨h, hn⟩
    · exact hr'.obj x u h
    · obtain ⟨q, ob, hq, hw, ho, hl⟩ := place x u h hn
      refine ⟨q, ob, he.le _ _ hq, ?_, ho.mono he.le⟩
      rw [he.frame _ (Array.getElem?_eq_some_iff.1 hw).1 hl]
      exact hw
  · have cross : ∀ x y u u' q q', (S (j + 1)).H.get x = some u → GA S D p y u' → (S j).H.get y = none → φ' x = some q → φ' y = some q' → q.blk = q'.blk → False := by
      intro x y u u' q q' h h' hn hq hq' e
      obtain ⟨q₁, ob, hq₁, hw, _, hl⟩ := place y u' h' hn
      have := he.le _ _ hq₁
      rw [hq'] at this; cases this
      rcases he.lies q.blk ⟨x, u, q, h, hq, rfl⟩ with h5 | h5
      · exact hl (e ▸ h5)
      · have := (Array.getElem?_eq_some_iff.1 hw).1
        omega
    rcases old x u h with h | ⟨h, hn⟩ <;> rcases old y u' h' with h' | ⟨h', hn'⟩
    · exact hr'.inj x y u u' q q' h h' hq hq' e
    · exact (cross x y u u' q q' h h' hn' hq hq' e).elim
    · exact (cross y x u' u q' q h' h hn hq' hq e.symm).elim
    · obtain ⟨q₁, _, hq₁, _⟩ := inv.gr.obj x u h
      obtain ⟨q₂, _, hq₂, _⟩ := inv.gr.obj y u' h'
      have e₁ := he.le _ _ hq₁
      have e₂ := he.le _ _ hq₂
      rw [hq] at e₁; cases e₁
      rw [hq'] at e₂; cases e₂
      exact inv.gr.inj x y u u' q q' h h' hq₁ hq₂ e
  · cases hφ : φ' x with
    | none => rfl
    | some q =>
      exfalso
      rcases he.dom x q hφ with h5 | h5
      · rw [inv.fr i x u hi (fun h => hni (.inl h)) hn] at h5; cases h5
      · have := news_lt cn hi hn
        have := st.nx
        have := inv.nx
        rw [hnext] at h5
        omega
  · have := he.next
    rw [hnext] at this
    have := inv.nx
    omega
  · rw [he.frame b (by have := inv.ex.size; omega) (fun hl => ?_)]
    · exact inv.ex.frame b hb hn
    · obtain ⟨z, u', q', hz, hq', e⟩ := hl
      rcases inv.ex.lies b ⟨z, u', q', hG z u' hz, hq', e⟩ with h5 | h5
      · exact hn h5
      · omega
  · have far : w.heap.size ≤ b → w₀.heap.size ≤ b := fun h => Nat.le_trans inv.ex.size h
    rcases old x u h with h | ⟨h, hn⟩
    · rcases he.lies b ⟨x, u, q, h, hq, hb⟩ with ⟨z, u', q', hz, hq', e⟩ | h5
      · exact inv.ex.lies b ⟨z, u', q', hG z u' hz, hq', e⟩
      · exact .inr (far h5)
    · obtain ⟨q₁, _, hq₁, _⟩ := inv.gr.obj x u h
      have e₁ := he.le _ _ hq₁
      rw [hq] at e₁; cases e₁
      exact inv.ex.lies b ⟨x, u, q, h, hq₁, hb⟩
  · rcases he.dom x q hq with h5 | h5
    · exact inv.ex.dom x q h5
    · right
      rw [hnext] at h5
      have := st.nm
      have := st.nx
      have := inv.nx
      omega

end
end Go.Sx
