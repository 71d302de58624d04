/- Rounds, calls, and all of it. -/
import Derived.Test.YtmkcndaidopkpaaGreatDoorSx17
namespace Go.Sx
noncomputable section
variable {P : Program}

/-! ## rounds -/
theorem setParams_rel {φ : Em} {T : FrP} : ∀ (ps : List Tmp) (args : List AV) (args' : List Value) (t t0 : Tr AV) (tmps : Array Value), setParams T t ps args = some t0 → VRels φ args args' → TRel φ T .nil t tmps →
    args'.length = ps.length ∧ TRel φ T .nil t0 ((ps.zip args').foldl (fun tmps p => tmps.setIfInBounds p.1 p.2) tmps)
  | [], [], _, t, t0, tmps, h, hv, ht => by
    cases hv
    cases h
    exact ⟨rfl, ht⟩
  | p :: r, v :: q, _, t, t0, tmps, h, hv, ht => by
    cases hv with
    | cons _ v' _ vs h1 h2 =>
      simp only [setParams] at h
      split at h
      · cases h
      · rename_i hc
        simp only [ble_nat, Bool.or_eq_false_iff, decide_eq_false_iff_not] at hc
        obtain ⟨hc1, hc2⟩ := hc
        have hp : p < T.n ∧ p < T.thr := ⟨Nat.lt_of_not_le hc2, Nat.lt_of_not_le hc1⟩
        have hp' : ¬ (p < T.n ∧ T.thr ≤ p) := fun h => hc1 h.2
        have hput := TRel.put (a := ⟨tmps, []⟩) ht (some p) h1
        rw [show putL T .nil (some p) v = .nil from if_neg hp', show putT T t (some p) v = Tr.set (kOf p) (some v) t from if_pos hp] at hput
        obtain ⟨h3, h4⟩ := setParams_rel r q vs _ t0 (tmps.setIfInBounds p v') h h2 hput
        exact ⟨by simp [h3], h4⟩
  | [], _ :: _, _, _, _, _, h, _, _ => by cases h
  | _ :: _, [], _, _, _, _, h, _, _ => by cases h

theorem loop_at {φ : Em} {H : Hp} {w : World} (r : HRel P φ H w) {x : K} {p : Pl} {st : LoopState} {pend : Option Code} {fn : FuncId} {T : FrP} {t : Tr AV} {ps : List Tmp} {as b : Code}
    (hx : H.get x = some (.loop st pend fn T t ps as b)) (hp : φ x = some p) :
    ∃ l : Loop, w.heap[p.blk]? = some (.loop l) ∧ l.state = st ∧ l.pending = pend ∧ l.assign = as ∧ l.body = b ∧ l.params.toList = ps ∧ TRel φ T .nil t l.tmps ∧
      ∀ st' pend', HRel P φ (H.put x (.loop st' pend' fn T t ps as b)) { w with heap := w.heap.setIfInBounds p.blk (.loop { l with state := st', pending := pend' }) } ∧
        Ext φ φ H (H.put x (.loop st' pend' fn T t ps as b)) w { w with heap := w.heap.setIfInBounds p.blk (.loop { l with state := st', pending := pend' }) } := by
  obtain ⟨q, ob, hq, hw, ho⟩ := r.obj _ _ hx
  rw [hp] at hq; cases hq
  cases ho with
  | loop _ _ _ fn' _ _ tmps ps' _ _ d htr =>
    refine ⟨_, hw, rfl, rfl, rfl, rfl, rfl, htr, fun st' pend' => ?_⟩
    have hf : ∀ c, c ≠ p.blk → (w.heap.setIfInBounds p.blk (.loop { state := st', pending := pend', fn := fn', tmps := tmps, params := ps', assign := as, body := b, defers := d }))[c]? = w.heap[c]? :=
      fun c hc => set_get_ne w _ hc
    exact ⟨r.put hx hp (set_get_same hw) (.loop st' pend' fn fn' T t tmps ps' as b d htr) hf, Ext.put hx hp (by simp) hf rfl rfl rfl (fun e he => by simp [elemOf, hw] at he)⟩

theorem endRound_run {w : World} {r : Nat} {l : Loop} {j : Option Code} (h : w.heap[r]? = some (.loop l)) :
    (Instr.endRound r j).run P w = .ok (.bool j.isNone) { w with heap := w.heap.setIfInBounds r (.loop { l with state := if j.isNone then .ready else .done, pending := j }) } := by
  simp [Instr.endRound, run_getLoop h, run_setObj h]

theorem yield_ok {rec : Job → Option Res} (rok : RecOk P rec) {x : K} {args : List AV} {H H' : Hp} {v : AV} (h : stepYield x args H rec = some (.val v H')) : YieldOk P x args H v H' := by
  intro φ w p args' r hp hargs
  unfold stepYield at h
  split at h
  · rename_i pd fn T t ps as b hx
    obtain ⟨l, hl, hst, hpend, has, hbody, hps, htr, _⟩ := loop_at r hx hp
    split at h
    · rename_i t0 ht0
      rw [← hps] at ht0
      obtain ⟨hlen, htr0⟩ := setParams_rel _ _ _ _ _ _ ht0 hargs htr
      have hrun : (Instr.yield p.blk args').run P w = .ok (.round p.blk l.fn ((l.params.zip args').foldl (fun tmps (t, a) => tmps.setIfInBounds t a) l.tmps) as b) w := by
        have : args'.size = l.params.size := by simpa using hlen
        simp [Instr.yield, run_getLoop hl, this, has, hbody]
      refine ⟨_, _, _, _, hrun, fun c cs => ?_⟩
      have htm : (l.params.zip args').foldl (fun tmps (t, a) => tmps.setIfInBounds t a) l.tmps = (l.params.toList.zip args'.toList).foldl (fun tmps p => tmps.setIfInBounds p.1 p.2) l.tmps := by
        rw [← Array.foldl_toList, Array.toList_zip]
      rw [htm]
      generalize hgt : (l.params.toList.zip args'.toList).foldl (fun tmps p => tmps.setIfInBounds p.1 p.2) l.tmps = tmps0 at htr0
      let fb : Frame := { (default : Frame) with fn := l.fn, kind := .normal, roundOf := some p.blk }
      have hround : Frame.round p.blk l.fn tmps0 as b .normal = fb.atR ⟨tmps0, []⟩ [.code as, .beginRound, .code b] := rfl
      rw [hround]
      unfold yieldB at h
      split at h
      · rename_i L₁ t₁ H₁ has₁
        have hat0 : At P 0 φ ⟨T.thr, T.n, true⟩ .nil t0 H fb ⟨tmps0, []⟩ w := ⟨⟨htr0.size, htr0.rel, htr0.out⟩, r, DOk.nil _ _ _ (Nat.zero_le _), (by intro h; cases h)⟩
        obtain ⟨φ₁, a₁, w₁, hat₁, he₁, hs₁⟩ := rok.code _ _ _ _ _ _ _ _ _ has₁ 0 φ fb ⟨tmps0, []⟩ w [.beginRound, .code b] (c :: cs) hat0
        split at h
        · rename_i pd₁ fn₁ T₁ t₁' ps₁ as₁ b₁ hx₁
          have hp₁ := he₁.le _ _ hp
          obtain ⟨l₁, hl₁, hst₁, hpend₁, _, _, _, _, hput₁⟩ := loop_at hat₁.hr hx₁ hp₁
          obtain ⟨hr₂, he₂⟩ := hput₁ .busy pd₁
          have hbegin : (Instr.beginRound p.blk).run P w₁ = .ok () { w₁ with heap := w₁.heap.setIfInBounds p.blk (.loop { l₁ with state := .busy, pending := pd₁ }) } := by
            simp [Instr.beginRound, run_getLoop hl₁, run_setObj hl₁, hst₁, ← hpend₁]
          unfold yieldE at h
          split at h
          · rename_i e L₃ t₃ H₃ hb₃
            have hat₂ : At P 0 φ₁ ⟨T.thr, T.n, true⟩ L₁ t₁ (H₁.put x (.loop .busy pd₁ fn₁ T₁ t₁' ps₁ as₁ b₁)) fb a₁ _ := ⟨hat₁.tr, hr₂, hat₁.df.ext he₂, (by intro h; cases h)⟩
            obtain ⟨φ₃, a₃, w₃, hat₃, he₃, hs₃⟩ := rok.code _ _ _ _ _ _ _ _ _ hb₃ 0 φ₁ fb a₁ _ [] (c :: cs) hat₂
            split at h
            · rename_i st₄ pd₄ fn₄ T₄ t₄ ps₄ as₄ b₄ hx₄
              have hp₃ := he₃.le _ _ hp₁
              obtain ⟨l₄, hl₄, _, _, _, _, _, _, hput₄⟩ := loop_at hat₃.hr hx₄ hp₃
              have hmid : Steps P (lone (fb.atR ⟨tmps0, []⟩ [.code as, .beginRound, .code b]) (c :: cs) w) (lone (fb.atR a₁ [.code b]) (c :: cs) { w₁ with heap := w₁.heap.setIfInBounds p.blk (.loop { l₁ with state := .busy, pending := pd₁ }) }) :=
                Steps.trans hs₁ (.one (stepR_beginRound rfl hbegin))
              have hext := he₁.trans (he₂.trans he₃)
              split at h
              · cases h
                obtain ⟨hr₅, he₅⟩ := hput₄ .ready none
                exact ⟨φ₃, .bool true, _, .bool _, hr₅, hext.trans he₅, hmid.trans (Steps.trans hs₃ (.one (stepR_round_end rfl rfl (endRound_run (j := none) hl₄))))⟩
              · rename_i hne
                cases h
                obtain ⟨hr₅, he₅⟩ := hput₄ .done (jumpOf e)
                cases e with
                | normal => exact absurd rfl hne
                | exit id =>
                  obtain ⟨q, hq, hs⟩ := hs₃
                  exact ⟨φ₃, .bool false, _, .bool _, hr₅, hext.trans he₅, hmid.trans (Steps.trans hs (.one (stepR_round_exit rfl rfl hq (endRound_run (j := some (.exit id)) hl₄))))⟩
                | goto g =>
                  obtain ⟨q, hq, hs⟩ := hs₃
                  exact ⟨φ₃, .bool false, _, .bool _, hr₅, hext.trans he₅, hmid.trans (Steps.trans hs (.one (stepR_round_goto rfl rfl hq (endRound_run (j := some (.goto g)) hl₄))))⟩
                | ret =>
                  obtain ⟨q, hs⟩ := hs₃
                  exact ⟨φ₃, .bool false, _, .bool _, hr₅, hext.trans he₅, hmid.trans (Steps.trans hs (.one (stepR_round_ret rfl rfl (endRound_run (j := some .ret) hl₄))))⟩
            · cases h
          · cases h
        · cases h
      · cases h
    · cases h
  · cases h

/-! ## calls -/
theorem bindT_get : ∀ (l : List AV) (k : K) (t : Tr AV) (y : K), Tr.get y (bindT l k t) = if k.toNat ≤ y.toNat ∧ y.toNat < k.toNat + l.length then some (l.getD (y.toNat - k.toNat) .undef) else Tr.get y t
  | [], k, t, y => by
    have : ¬ (k.toNat ≤ y.toNat ∧ y.toNat < k.toNat + ([] : List AV).length) := by simp <;> omega
    rw [if_neg this]; rfl
  | v :: r, k, t, y => by
    have e : bindT (v :: r) k t = bindT r k.succ (Tr.set k (some v) t) := rfl
    rw [e, bindT_get r k.succ (Tr.set k (some v) t) y, K.toNat_succ]
    by_cases h : y = k
    · subst h
      have h1 : ¬ (y.toNat + 1 ≤ y.toNat ∧ y.toNat < y.toNat + 1 + r.length) := by omega
      have h2 : y.toNat ≤ y.toNat ∧ y.toNat < y.toNat + (v :: r).length := by simp
      rw [if_neg h1, if_pos h2, Tr.get_set_same]
      simp
    · have hn : y.toNat ≠ k.toNat := fun e => h (K.toNat_inj e)
      rw [Tr.get_set_ne _ _ _ _ h]
      by_cases h1 : k.toNat + 1 ≤ y.toNat ∧ y.toNat < k.toNat + 1 + r.length
      · have h2 : k.toNat ≤ y.toNat ∧ y.toNat < k.toNat + (v :: r).length := by simp <;> omega
        rw [if_pos h1, if_pos h2]
        have : y.toNat - k.toNat = (y.toNat - (k.toNat + 1)) + 1 := by omega
        rw [this]; simp
      · have h2 : ¬ (k.toNat ≤ y.toNat ∧ y.toNat < k.toNat + (v :: r).length) := by simp <;> omega
        rw [if_neg h1, if_neg h2]

theorem enter_tr {φ : Em} {thr n : Nat} {args : List AV} {args' : Array Value} (h : VRels φ args args'.toList) (hn : args.length ≤ n) :
    TRel φ ⟨thr, n, false⟩ .nil (bindT args .e .leaf) (args' ++ Array.replicate (n - args'.size) undef) := by
  have hlen : args'.size = args.length := by have := h.length; simpa using this
  have henv : ∀ i, env ⟨thr, n, false⟩ .nil (bindT args .e .leaf) i = if i < thr ∧ i < args.length then args.getD i .undef else .undef := by
    intro i
    unfold env
    by_cases h1 : thr ≤ i
    · have : ¬ (i < thr ∧ i < args.length) := by omega
      simp [h1, this, find_nil]
    · rw [if_neg h1, bindT_get, kOf_toNat]
      have h0 : K.toNat .e = 0 := rfl
      rw [h0]
      by_cases h2 : i < args.length
      · have h3 : 0 ≤ i ∧ i < 0 + args.length := by omega
        have h4 : i < thr ∧ i < args.length := by omega
        rw [if_pos h3, if_pos h4]; rfl
      · have h3 : ¬ (0 ≤ i ∧ i < 0 + args.length) := by omega
        have h4 : ¬ (i < thr ∧ i < args.length) := by omega
        rw [if_neg h3, if_neg h4, Tr.get_leaf]; rfl
  refine ⟨by simp <;> omega, fun i => ?_, fun i hi => ?_⟩
  · rw [henv]
    by_cases h1 : i < thr ∧ i < args.length
    · rw [if_pos h1]
      obtain ⟨v, hv, hr⟩ := h.get (k := i) (a := args.getD i .undef) (by
        rw [List.getD_eq_getElem?_getD, List.getElem?_eq_getElem h1.2]; rfl)
      have hv' : args'[i]? = some v := by rw [← Array.getElem?_toList]; exact hv
      have : (args' ++ Array.replicate (n - args'.size) undef).getD i undef = v := by
        rw [Array.getD_eq_getD_getElem?, Array.getElem?_append_left (by omega), hv']; rfl
      rw [this]; exact hr
    · rw [if_neg h1]; exact .undef _
  · rw [henv]
    have hi : n ≤ i := hi
    have : ¬ (i < thr ∧ i < args.length) := by omega
    rw [if_neg this]

def resOf (tmps : Array Value) : ResultVar → Sem Value
  | .tmp t => pure (tmps.getD t undef)
  | .cell c ty => do loadVar ty (← asAddr (tmps.getD c undef))
theorem results_rel {φ : Em} {T : FrP} {L : Loc} {t : Tr AV} {H : Hp} {w : World} {a : Act} (tr : TRel φ T L t a.tmps) (r : HRel P φ H w) : ∀ {rs : List ResultVar} {l : List AV}, resultsOf P T L t H rs = some l →
    ∃ vs, VRels φ l vs ∧ (rs.mapM (resOf a.tmps)).run P w = .ok vs w
  | [], l, h => by cases h; exact ⟨[], .nil, rfl⟩
  | .tmp i :: rs, l, h => by
    simp only [resultsOf] at h
    split at h
    · rename_i q hq
      cases h
      obtain ⟨vs, h1, h2⟩ := results_rel tr r hq
      refine ⟨a.tmps.getD i undef :: vs, .cons _ _ _ _ (by rw [evo_tmp]; exact tr.rel i) h1, ?_⟩
      simp only [List.mapM_cons, Sem.run_bind, resOf, Sem.run_pure, Result.andThen_ok, h2]
    · cases h
  | .cell c ty :: rs, l, h => by
    simp only [resultsOf] at h
    split at h
    · rename_i v q hv hq
      cases h
      obtain ⟨vs, h1, h2⟩ := results_rel tr r hq
      obtain ⟨ad, u, e, _, h3, h4⟩ := xload_rel r (by rw [evo_tmp]; exact tr.rel c) hv
      refine ⟨u :: vs, .cons _ _ _ _ h4 h1, ?_⟩
      have ha : (asAddr (a.tmps.getD c undef)).run P w = .ok ad w := by rw [e]; rfl
      simp only [List.mapM_cons, Sem.run_bind, resOf, ha, Sem.run_pure, Result.andThen_ok, h3, h2]
    · cases h

/-- at the end of a call the blocks of its loops are taken. -/
theorem take_ok {φ : Em} {H : Hp} : ∀ (rs : List Nat) (w : World) (fr : Frame) (cs : List Frame), HRel P φ H w → rs.Nodup → (∀ r ∈ rs, w.heap[r]? = some (.deferred (some [])) ∧ ¬ Lies φ H r) → fr.mode = .returning → fr.defers = rs.map mark →
    ∃ w', HRel P φ H w' ∧ (w'.heap.size = w.heap.size ∧ (∀ b, b ∉ rs → w'.heap[b]? = w.heap[b]?) ∧ w'.os = w.os ∧ w'.output = w.output ∧ w'.tape = w.tape) ∧ Steps P (lone fr cs w) (lone { fr with defers := [] } cs w')
  | [], w, fr, cs, r, _, _, _, hd => by
    refine ⟨w, r, ⟨rfl, fun _ _ => rfl, rfl, rfl, rfl⟩, ?_⟩
    have : ({ fr with defers := [] } : Frame) = fr := by cases fr; cases hd; rfl
    rw [this]; exact Steps.refl _ _
  | b :: rs, w, fr, cs, r, hn, hb, hm, hd => by
    obtain ⟨h1, h2⟩ := hb b (by simp)
    let w₁ : World := { w with heap := w.heap.setIfInBounds b (.deferred none) }
    have hf : ∀ c, c ≠ b → w₁.heap[c]? = w.heap[c]? := fun c hc => set_get_ne w _ hc
    have hr₁ : HRel P φ H w₁ := r.grow (fun c hc => hf c (fun e => h2 (e ▸ hc)))
    have hne : ∀ x ∈ rs, x ≠ b := fun x hx e => (List.nodup_cons.1 hn).1 (e ▸ hx)
    obtain ⟨w', h3, ⟨h4, h5, h6, h7, h8⟩, h9⟩ := take_ok rs w₁ { fr with defers := rs.map mark } cs hr₁ (List.nodup_cons.1 hn).2
      (fun x hx => by rw [hf x (hne x hx)]; exact hb x (by simp [hx])) hm rfl
    refine ⟨w', h3, ⟨h4.trans (by simp [w₁]), fun c hc => (h5 c (fun hx => hc (by simp [hx]))).trans (hf c (fun e => hc (by simp [e]))), h6, h7, h8⟩, .head ?_ h9⟩
    have htake : (Instr.takeDeferred b).run P w = .ok [] w₁ := by
      simp [Instr.takeDeferred, run_getObj h1, run_setObj h1, w₁]
    refine step_lone_go ?_
    have hd : fr.defers = { target := .collected b, args := #[] } :: rs.map mark := hd
    obtain ⟨fn, tmps, todo, ds, mode, kind, ro⟩ := fr
    cases hm
    cases hd
    simp [stepG, unwind, Sem.runT_eq, htake]

theorem finish_some {fn : Func} {T : FrP} {r : Option Res} {v : AV} {H : Hp} (h : finish P fn T r = some (.val v H)) :
    ∃ e L t, r = some (.out e L t H) ∧ (e = .normal ∨ e = .ret) ∧ ∃ vs, resultsOf P T L t H fn.results.toList = some vs ∧ (vs = [v] ∨ (vs.length ≠ 1 ∧ v = .tup vs)) := by
  unfold finish at h
  split at h
  · rename_i e L t H₀
    split at h
    · rename_i u he hv
      cases h
      refine ⟨e, L, t, rfl, ?_, [v], hv, .inl rfl⟩
      cases e <;> first | exact .inl rfl | exact .inr rfl | cases he
    · rename_i vs hne he hv
      cases h
      refine ⟨e, L, t, rfl, ?_, vs, hv, .inr ⟨?_, rfl⟩⟩
      · cases e <;> first | exact .inl rfl | exact .inr rfl | cases he
      · intro hl
        obtain ⟨u, hu⟩ := List.length_eq_one_iff.1 hl
        exact hne u hu
    · cases h
  · cases h

theorem call_ok {rec : Job → Option Res} (rok : RecOk P rec) {thr : FuncId → Nat} {f : FuncId} {args : List AV} {H H' : Hp} {v : AV} (h : stepCall P thr f args H rec = some (.val v H')) : CallOk P f args H v H' := by
  intro φ w args' r hargs cs
  unfold stepCall at h
  split at h
  · rename_i fn hf
    split at h
    · rename_i c hc
      split at h
      · rename_i hle
        rw [ble_nat] at hle
        have hle : args.length ≤ fn.ntmps := by rw [← len_eq]; simpa using hle
        obtain ⟨e, L, t, hr, he, vs, hvs, hv⟩ := finish_some h
        let b : Frame := { (default : Frame) with fn := f, kind := .normal }
        let a₀ : Act := ⟨args' ++ Array.replicate (fn.ntmps - args'.size) undef, []⟩
        have henter : Frame.enter P f args' .normal = b.atR a₀ [.code c] := by
          simp [Frame.enter, Frame.atR, hf, hc, b, a₀]
          rfl
        have hat : At P w.heap.size φ ⟨thr f, fn.ntmps, false⟩ .nil (bindT args .e .leaf) H b a₀ w := ⟨enter_tr hargs hle, r, DOk.nil _ _ _ (Nat.le_refl _), fun _ => rfl⟩
        obtain ⟨φ₁, a₁, w₁, hat₁, he₁, hs₁⟩ := rok.code _ _ _ _ _ _ _ _ _ hr w.heap.size φ b a₀ w [] cs hat
        obtain ⟨hsz, rs, hnd, hds, hrs⟩ := hat₁.df
        have hret : ∃ q, Steps P (lone (b.atR a₀ [.code c]) cs w) (lone { b.atR a₁ q with mode := .returning } cs w₁) := by
          rcases he with rfl | rfl
          · exact ⟨[], Steps.trans hs₁ (.one (stepR_end rfl))⟩
          · obtain ⟨q, hq⟩ := hs₁
            exact ⟨.code .ret :: q, Steps.trans hq (.one (stepR_ret rfl))⟩
        obtain ⟨q, hq⟩ := hret
        obtain ⟨w₂, hr₂, ⟨h1, h2, h3, h4, h5⟩, hs₂⟩ := take_ok rs w₁ { b.atR a₁ q with mode := .returning } cs hat₁.hr hnd (fun x hx => ⟨(hrs x hx).1, (hrs x hx).2.1⟩) rfl hds
        obtain ⟨us, hus, hrun⟩ := results_rel hat₁.tr hr₂ (a := a₁) (by
          have : resultsOf P ⟨thr f, fn.ntmps, false⟩ L t H' fn.results.toList = some vs := hvs
          exact this)
        have hmap : (results fn a₁.tmps).run P w₂ = .ok (if us.length = 1 then us.getD 0 undef else .tuple us.toArray) w₂ := by
          have hres : results fn a₁.tmps = (do let vs ← fn.results.mapM (resOf a₁.tmps); pure (if h : vs.size = 1 then vs[0] else .tuple vs)) := rfl
          rw [hres, Array.mapM_eq_mapM_toList]
          simp only [Sem.run_bind, Sem.run_map, hrun, Result.andThen_ok, Sem.run_pure]
          by_cases h1 : us.length = 1
          · obtain ⟨u, rfl⟩ := List.length_eq_one_iff.1 h1
            simp
          · simp [h1]
        refine ⟨.returned (if us.length = 1 then us.getD 0 undef else .tuple us.toArray), w₂, { b.atR a₁ q with mode := .returning, defers := [] }, ⟨φ₁, _, rfl, ?_, hr₂, ?_⟩, ?_, rfl, rfl, rfl, rfl, fn, hf, hmap⟩
        · have hlen := hus.length
          rcases hv with rfl | ⟨hne, rfl⟩
          · cases hus with
            | cons _ u _ _ hu hn => cases hn; exact hu
          · have : us.length ≠ 1 := by omega
            rw [if_neg this]
            exact .tup _ _ (by simpa using hus)
        · refine ⟨he₁.le, he₁.next, by rw [h1]; exact he₁.size, fun c hc hn => ?_, he₁.lies, he₁.dom, h3.trans he₁.os, h4.trans he₁.output, h5.trans he₁.tape, fun c u hu => ?_⟩
          · rw [h2 c (fun hm => by have := (hrs c hm).2.2; omega)]
            exact he₁.frame c hc hn
          · have hu' := he₁.keeps c u hu
            have hc : c ∉ rs := fun hm => by have := (hrs c hm).1; simp [elemOf, this] at hu'
            unfold elemOf at hu' ⊢; rw [h2 c hc]; exact hu'
        · rw [henter]
          exact Steps.trans hq hs₂
      · cases h
    · cases h
  · cases h

end
end Go.Sx
