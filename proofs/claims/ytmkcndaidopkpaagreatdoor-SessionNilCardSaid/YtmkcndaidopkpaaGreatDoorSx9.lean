/- Operations on two values; maps. -/
import Derived.Test.YtmkcndaidopkpaaGreatDoorSx8
namespace Go.Sx
noncomputable section
variable {P : Program} {φ : Em} {H : Hp} {w : World}

/-- of what sort a value is that may be held against another one. -/
theorem sort_shape {a : AV} {u : Value} (h : VRel φ a u) (h0 : sortOf a ≠ 0) :
    (∀ k n, u = .int k n → a = .int k n) ∧ (∀ k n, u = .float k n → a = .float k n) ∧ (∀ s, u = .string s → a = .str (bytesOf s)) ∧ (∀ k m n, u ≠ .complex k m n) := by
  cases h <;> simp [sortOf] at h0 ⊢

theorem guard_sorts {x y : Operand} {t : TypeId} {a b : AV} (h : guardEq P x y t a b = true) : sortOf a ≠ 0 ∧ sortOf b ≠ 0 := by
  unfold guardEq at h
  split at h
  · cases h
  · cases h
  · rename_i ea eb; omega
  · rename_i ea eb; omega
  · rename_i n0 n1 _ _; exact ⟨n0, n1⟩

theorem binOp_eql {t : TypeId} {u v : Value} (h1 : ¬ ((∃ k n, u = .int k n) ∧ ∃ k n, v = .int k n)) (h2 : ¬ ((∃ k n, u = .float k n) ∧ ∃ k n, v = .float k n))
    (h3 : ¬ ((∃ s, u = .string s) ∧ ∃ s, v = .string s)) (h4 : ∀ k m n, u ≠ .complex k m n) :
    binOp .eql t u v = (do pure (.bool (← Op.equal t u v))) ∧ binOp .neq t u v = (do pure (.bool (!(← Op.equal t u v)))) := by
  cases u <;> first
    | exact ⟨rfl, rfl⟩
    | exact absurd rfl (h4 _ _ _)
    | (cases v <;> first
        | exact ⟨rfl, rfl⟩
        | exact absurd ⟨⟨_, _, rfl⟩, ⟨_, _, rfl⟩⟩ h1
        | exact absurd ⟨⟨_, _, rfl⟩, ⟨_, _, rfl⟩⟩ h2
        | exact absurd ⟨⟨_, rfl⟩, ⟨_, rfl⟩⟩ h3)

theorem eqGuard_quiet {op : BinOp} {t : TypeId} {x y : Operand} {u v : Value} (h : (∃ k n, u = .int k n) ∨ (∃ s, u = .string s) ∨ ∃ k n, u = .float k n) (w : World) :
    (eqGuard op t x y u v).run P w = .ok () w := by
  refine eqGuard_other ?_ ?_ w
  · rintro ⟨rfl, _⟩
    rcases h with ⟨_, _, h⟩ | ⟨_, h⟩ | ⟨_, _, h⟩ <;> cases h
  · rintro ⟨⟨_, rfl⟩, _⟩
    rcases h with ⟨_, _, h⟩ | ⟨_, h⟩ | ⟨_, _, h⟩ <;> cases h

theorem bin_rel (r : HRel P φ H w) {op : BinOp} {x y : Operand} {t : TypeId} {a b res : AV} {u v : Value} (ha : VRel φ a u) (hb : VRel φ b v) (h : xbin P H op t x y a b = some res) :
    ∃ q, (do eqGuard op t x y u v; binOp op t u v : Sem Value).run P w = .ok q w ∧ VRel φ res q := by
  unfold xbin at h
  split at h
  · rename_i k m k' n
    have := rel_int ha; subst this
    have := rel_int hb; subst this
    simp only [Sem.run_bind, eqGuard_quiet (.inl ⟨_, _, rfl⟩), Result.andThen_ok]
    split at h
    · rename_i hs
      exact shift_rel hs h t w
    · rename_i hs
      have hI : iBin (intFn op) (.int k m) (.int k' n) = (match Nat.beq (kNat k) (kNat k') with | true => intFn op k m n | false => none) := rfl
      rw [hI] at h
      split at h
      · rename_i hk
        have := kNat_inj hk; subst this
        exact intFn_rel hs h t w
      · cases h
  · rename_i m n
    obtain ⟨s, rfl, rfl⟩ := rel_str ha
    obtain ⟨s', rfl, rfl⟩ := rel_str hb
    simp only [Sem.run_bind, eqGuard_quiet (.inr (.inl ⟨_, rfl⟩)), Result.andThen_ok]
    exact strOp_rel h t w
  · rename_i k m k' n
    split at h
    · rename_i hk _
      subst hk
      cases ha; cases hb
      simp only [Sem.run_bind, eqGuard_quiet (.inr (.inr ⟨_, _, rfl⟩)), Result.andThen_ok]
      exact floatOp_rel h t w
    · cases h
  · rename_i a' b' n1 n2 n3
    cases hrng : rngBin op a b with
    | some c =>
      rw [hrng] at h
      have h := Option.some.inj h
      obtain ⟨k, m, n, d, rfl, rfl, hs, hd, hr⟩ := rngBin_rel ha hb hrng
      simp only [Sem.run_bind, eqGuard_quiet (.inl ⟨_, _, rfl⟩), Result.andThen_ok]
      obtain ⟨q, hq, hqr⟩ := intFn_rel (P := P) (φ := φ) hs hd t w
      exact ⟨q, hq, h ▸ hr q hqr⟩
    | none =>
    rw [hrng] at h
    simp only at h
    have key : ∀ neg : Bool, eqAny P H neg t x y a b = some res → ∃ q : Bool, (eqGuard (if neg then .neq else .eql) t x y u v).run P w = .ok () w ∧ (Op.equal t u v).run P w = .ok q w ∧ res = .bool (if neg then !q else q) ∧
        (binOp .eql t u v = (do pure (.bool (← Op.equal t u v))) ∧ binOp .neq t u v = (do pure (.bool (!(← Op.equal t u v))))) := fun neg he => by
      have hg : guardEq P x y t a b = true := by
        unfold eqAny at he
        split at he
        · assumption
        · cases he
      obtain ⟨sa, sb⟩ := guard_sorts hg
      have A := sort_shape ha sa
      have B := sort_shape hb sb
      obtain ⟨hgr, q, hq, rfl⟩ := eqAny_rel r ha hb he
      refine ⟨q, hgr, hq, rfl, binOp_eql ?_ ?_ ?_ A.2.2.2⟩
      · rintro ⟨⟨k, n, e⟩, ⟨k', n', e'⟩⟩
        exact n1 _ _ _ _ (A.1 _ _ e) (B.1 _ _ e')
      · rintro ⟨⟨k, n, e⟩, ⟨k', n', e'⟩⟩
        exact n3 _ _ _ _ (A.2.1 _ _ e) (B.2.1 _ _ e')
      · rintro ⟨⟨s, e⟩, ⟨s', e'⟩⟩
        exact n2 _ _ (A.2.2.1 _ e) (B.2.2.1 _ e')
    cases op <;> simp only at h
    case eql =>
      obtain ⟨q, hg, hq, rfl, hb1, _⟩ := key false h
      refine ⟨.bool q, ?_, .bool _⟩
      simp only [Bool.false_eq_true, if_false] at hg
      simp only [Sem.run_bind, hg, Result.andThen_ok, hb1, hq, Sem.run_pure]
    case neq =>
      obtain ⟨q, hg, hq, rfl, _, hb2⟩ := key true h
      refine ⟨.bool (!q), ?_, .bool _⟩
      simp only [if_true] at hg
      simp only [Sem.run_bind, hg, Result.andThen_ok, hb2, hq, Sem.run_pure]
    all_goals cases h

/-! ## maps -/
theorem checkKey_plain {t : TypeId} (h : plainT P t = true) (b : Bool) (n : Nat) (v : Value) (w : World) : (Instr.checkKey b (n + 1) t v).run P w = .ok () w := by
  unfold plainT at h
  rw [Instr.checkKey]
  split at h
  · rename_i hu; simp only [Sem.run_bind, run_uty hu, Result.andThen_ok]; rfl
  · rename_i hu; simp only [Sem.run_bind, run_uty hu, Result.andThen_ok]; rfl
  · rename_i hu; simp only [Sem.run_bind, run_uty hu, Result.andThen_ok]; rfl
  · cases h

theorem checkKey_ok {t : TypeId} {k : AV} {v : Value} (hv : VRel φ k v) (hk : keyFits P t k = true) (b : Bool) (w : World) :
    (Instr.checkKey b 10000 t v).run P w = .ok () w := by
  unfold keyFits at hk
  rw [show (10000 : Nat) = 9999 + 1 from rfl]
  split at hk
  · rename_i hu; exact checkKey_plain (by simp [plainT, hu]) b _ v w
  · rename_i hu; exact checkKey_plain (by simp [plainT, hu]) b _ v w
  · rename_i hu; exact checkKey_plain (by simp [plainT, hu]) b _ v w
  · rename_i fs hu
    split at hk
    · rename_i l hl
      have := asAgg_some hl; subst this
      obtain ⟨cs, rfl, hr⟩ := rel_agg hv
      rw [Instr.checkKey]
      simp only [Sem.run_bind, run_uty hu, Result.andThen_ok]
      rw [← Array.forIn_toList]
      have hk' : ∀ f ∈ fs.toList, fieldFits P l f = true := List.all_eq_true.1 hk
      generalize fs.toList = L at hk'
      induction L with
      | nil => simp
      | cons f L ih =>
        have hf := hk' f (by simp)
        unfold fieldFits at hf
        cases hd : decEq f.name "_" with
        | isTrue hn => rw [hd] at hf; cases hf
        | isFalse hn =>
          rw [hd] at hf
          cases hq : xpart P f.type l f.offset with
          | none => rw [hq] at hf; cases hf
          | some q =>
            rw [hq] at hf
            obtain ⟨u, hu1, _⟩ := part_rel hr hq w
            have hc := checkKey_plain hf b 9998 u w
            simp only [List.forIn_cons, Sem.run_bind, hn, ne_eq, not_false_eq_true, if_true, hu1, hc, Result.andThen_ok, Sem.run_pure]
            exact ih (fun g hg => hk' g (by simp [hg]))
    · cases hk
  · cases hk

/-- what is found. -/
def FRel (φ : Em) : Option (Nat × AV) → Option (Nat × Value) → Prop
  | none, none => True
  | some (i, a), some (j, v) => i = j ∧ VRel φ a v
  | _, _ => False

theorem asking_rel (r : HRel P φ H w) {t : TypeId} {k : AV} {v : Value} (hk : VRel φ k v) : ∀ {l : List (AV × AV × Nat)} {es : List MapEntry} {i : Nat} {res : Option (Nat × AV)}, ERel φ l es → findM P H t k l i = some res →
    ∃ res', (Instr.findAsking t v es i).run P w = .ok res' w ∧ FRel φ res res'
  | _, _, i, res, .nil, h => by cases h; exact ⟨none, by simp [Instr.findAsking], trivial⟩
  | _, _, i, res, .cons a b n e l es h1 h2 h3 h4, h => by
    simp only [findM] at h
    cases hq : xeq P H 10000 t k a with
    | none => rw [hq] at h; cases h
    | some q =>
      have he : (Op.equal t v e.key).run P w = .ok q w := eq_rel r 10000 t hk h1 hq
      rw [hq] at h
      cases q with
      | true => cases h; exact ⟨some (i, e.val), by simp [Instr.findAsking, he], rfl, h2⟩
      | false =>
        obtain ⟨res', hr, hf⟩ := asking_rel r hk h4 h
        exact ⟨res', by simp [Instr.findAsking, he, hr], hf⟩

theorem sameNow_some {d : TypeDesc} {u v : Value} {q : Bool} (h : Instr.sameNow d u v = some q) :
    (∃ k0 k a b, d = .int k0 ∧ u = .int k a ∧ v = .int k b ∧ q = (a == b)) ∨ (∃ a b, d = .string ∧ u = .string a ∧ v = .string b ∧ q = (a == b)) ∨ (∃ a b, d = .bool ∧ u = .bool a ∧ v = .bool b ∧ q = (a == b)) := by
  unfold Instr.sameNow at h
  split at h
  · rename_i k0 k a k' b
    split at h
    · rename_i hk; subst hk; cases h; exact .inl ⟨k0, k, a, b, rfl, rfl, rfl, rfl⟩
    · cases h
  · cases h; exact .inr (.inl ⟨_, _, rfl, rfl, rfl, rfl⟩)
  · cases h; exact .inr (.inr ⟨_, _, rfl, rfl, rfl, rfl⟩)
  · cases h

theorem sameNow_rel (r : HRel P φ H w) {t : TypeId} {d : TypeDesc} (hd : P.underlying t = some d) {a b : AV} {u v : Value} {q q' : Bool} (ha : VRel φ a u) (hb : VRel φ b v)
    (h : Instr.sameNow d u v = some q) (hx : xeq P H 10000 t a b = some q') : q = q' := by
  have he := eq_rel r 10000 t ha hb hx
  rw [show (10000 : Nat) = 9999 + 1 from rfl] at he
  rcases sameNow_some h with ⟨k0, k, m, n, rfl, rfl, rfl, rfl⟩ | ⟨m, n, rfl, rfl, rfl, rfl⟩ | ⟨m, n, rfl, rfl, rfl, rfl⟩
  · rw [run_equalIn_int w 9999 t k k0 m n hd] at he; cases he; rfl
  · rw [run_equalIn_string w 9999 t m n hd, ← beq_toListBytes] at he; cases he; rfl
  · rw [run_equalIn_bool' w 9999 t m n hd] at he; cases he; rfl

theorem now_rel (r : HRel P φ H w) {t : TypeId} {d : TypeDesc} (hd : P.underlying t = some d) {k : AV} {v : Value} (hk : VRel φ k v) : ∀ {l : List (AV × AV × Nat)} {es : List MapEntry} {i : Nat} {res : Option (Nat × AV)} {res' : Option (Nat × Value)},
    ERel φ l es → findM P H t k l i = some res → Instr.findNow d v es i = some res' → FRel φ res res'
  | _, _, i, res, res', .nil, h, h' => by cases h; cases h'; trivial
  | _, _, i, res, res', .cons a b n e l es h1 h2 h3 h4, h, h' => by
    simp only [findM] at h
    simp only [Instr.findNow] at h'
    split at h'
    · rename_i hs
      cases h'
      split at h
      · cases h; exact ⟨rfl, h2⟩
      · rename_i hx
        have := sameNow_rel r hd hk h1 hs hx; cases this
      · cases h
    · rename_i hs
      split at h
      · rename_i hx
        have := sameNow_rel r hd hk h1 hs hx; cases this
      · exact now_rel r hd hk h4 h h'
      · cases h
    · cases h'

theorem find_rel (r : HRel P φ H w) {t : TypeId} {k : AV} {v : Value} (hk : VRel φ k v) {l : List (AV × AV × Nat)} {es : List MapEntry} {res : Option (Nat × AV)} (he : ERel φ l es) (hd : ∃ d, P.underlying t = some d) (h : findM P H t k l 0 = some res) :
    ∃ res', (Instr.findKey t v es).run P w = .ok res' w ∧ FRel φ res res' := by
  obtain ⟨d, hd⟩ := hd
  simp only [Instr.findKey, Sem.run_bind, run_uty hd, Result.andThen_ok]
  cases hn : Instr.findNow d v es 0 with
  | some res' => exact ⟨res', by simp, now_rel r hd hk he h hn⟩
  | none => simp only; exact asking_rel r hk he h

theorem keyFits_uty {t : TypeId} {k : AV} (h : keyFits P t k = true) : ∃ d, P.underlying t = some d := by
  unfold keyFits at h
  cases hu : P.underlying t with
  | none => rw [hu] at h; cases h
  | some d => exact ⟨d, rfl⟩

/-- the entries of a map. -/
theorem entries_rel (r : HRel P φ H w) {m : AV} {v : Value} {l : List (AV × AV × Nat)} (hm : VRel φ m v) (h : entriesOf H m = some l) :
    (v = .map none ∧ l = []) ∨ ∃ x p en c, m = .mapv x ∧ φ x = some p ∧ H.get x = some (.map l c) ∧ v = .map (some p.blk) ∧ w.heap[p.blk]? = some (.map en c) ∧ ERel φ l en.toList := by
  unfold entriesOf at h
  split at h
  · cases h; cases hm; exact .inl ⟨rfl, rfl⟩
  · rename_i x
    split at h
    · rename_i es c hx
      cases h
      cases hm with
      | mapv _ p hp =>
        obtain ⟨en, hw, her⟩ := r.map_at hx hp
        exact .inr ⟨x, p, en, c, rfl, hp, hx, rfl, hw, her⟩
    · cases h
  · cases h

/-! ## tables -/
theorem tabAt_some {n : Nat} {v : AV} : ∀ {l : List (Nat × AV)}, tabAt n l = some v → (n, v) ∈ l
  | [], h => by cases h
  | (k, u) :: r, h => by
    simp only [tabAt, beq_nat] at h
    by_cases e : k = n
    · subst e
      simp only [decide_true] at h
      cases h; simp
    · simp only [e, decide_false] at h
      exact List.mem_cons_of_mem _ (tabAt_some h)
theorem tabAt_none {n : Nat} : ∀ {l : List (Nat × AV)}, tabAt n l = none → ∀ q ∈ l, q.1 ≠ n
  | [], _, q, hq => by cases hq
  | (k, u) :: r, h, q, hq => by
    simp only [tabAt, beq_nat] at h
    by_cases e : k = n
    · subst e
      simp only [decide_true] at h
      cases h
    · simp only [e, decide_false] at h
      rcases List.mem_cons.1 hq with rfl | hq
      · exact e
      · exact tabAt_none h q hq
theorem nodup_key : ∀ {l : List (Nat × AV)}, (l.map (·.1)).Nodup → ∀ {n : Nat} {a b : AV}, (n, a) ∈ l → (n, b) ∈ l → a = b
  | [], _, _, _, _, h, _ => by cases h
  | (k, u) :: r, hn, n, a, b, ha, hb => by
    simp only [List.map_cons, List.nodup_cons] at hn
    have no : ∀ c, (k, c) ∈ r → False := fun c hc => hn.1 (List.mem_map.2 ⟨(k, c), hc, rfl⟩)
    rcases List.mem_cons.1 ha with ha | ha <;> rcases List.mem_cons.1 hb with hb | hb
    · cases ha; cases hb; rfl
    · cases ha; exact (no _ hb).elim
    · cases hb; exact (no _ ha).elim
    · exact nodup_key hn.2 ha hb
theorem findNow_tab {k0 k : IntKind} {n : Nat} : ∀ (es : List MapEntry) (i : Nat), (∀ e ∈ es, ∃ m : Nat, e.key = .int k (.ofNat m)) →
    (Instr.findNow (.int k0) (.int k (.ofNat n)) es i = some none ∧ ∀ e ∈ es, e.key ≠ .int k (.ofNat n)) ∨
    ∃ j e, e ∈ es ∧ e.key = .int k (.ofNat n) ∧ Instr.findNow (.int k0) (.int k (.ofNat n)) es i = some (some (j, e.val))
  | [], i, _ => .inl ⟨rfl, fun e he => by cases he⟩
  | e :: es, i, h => by
    obtain ⟨m, hm⟩ := h e (by simp)
    have hs : Instr.sameNow (.int k0) (.int k (.ofNat n)) e.key = some (n == m) := by
      rw [hm]
      simp only [Instr.sameNow, if_true]
      congr 1
      by_cases e : n = m
      · subst e; simp
      · have : ¬ ((Int.ofNat n) = Int.ofNat m) := fun h => e (Int.ofNat.inj h)
        rw [beq_eq_false_iff_ne.2 this, beq_eq_false_iff_ne.2 e]
    by_cases e1 : n = m
    · subst e1
      simp only [beq_self_eq_true] at hs
      exact .inr ⟨i, e, by simp, hm, by simp only [Instr.findNow, hs]⟩
    · have e2 : (n == m) = false := beq_eq_false_iff_ne.2 e1
      rw [e2] at hs
      have step : ∀ i, Instr.findNow (.int k0) (.int k (.ofNat n)) (e :: es) i = Instr.findNow (.int k0) (.int k (.ofNat n)) es (i + 1) := fun i => by simp only [Instr.findNow, hs]
      rcases findNow_tab es (i + 1) (fun x hx => h x (by simp [hx])) with ⟨h1, h2⟩ | ⟨j, x, h1, h2, h3⟩
      · refine .inl ⟨(step i).trans h1, fun x hx => ?_⟩
        rcases List.mem_cons.1 hx with rfl | hx
        · rw [hm]; intro h; injection h with _ h; exact e1 (Int.ofNat.inj h).symm
        · exact h2 x hx
      · exact .inr ⟨j, x, by simp [h1], h2, (step i).trans h3⟩

theorem tabKey_some {t : TypeId} {k : AV} {kd : IntKind} {n : Nat} (h : tabKey P t k kd = some n) : (∃ k0, P.underlying t = some (.int k0)) ∧ k = .int kd (.ofNat n) := by
  unfold tabKey at h
  split at h
  · rename_i k0 kk m hu
    split at h
    · rename_i hb
      cases h
      rw [kNat_inj hb]
      exact ⟨⟨_, hu⟩, rfl⟩
    · cases h
  · cases h

theorem lookup_rel (r : HRel P φ H w) {t : TypeId} {m k res : AV} {mv kv : Value} {c : Bool} (hm : VRel φ m mv) (hk : VRel φ k kv) (h : xlookup P H t m k c = some res) :
    ∃ u, (Instr.lookup t mv kv c).run P w = .ok u w ∧ VRel φ res u := by
  unfold xlookup at h
  split at h
  · rename_i kt et hu
    have main : ∀ (en : List MapEntry) (o : Option AV) (res' : Option (Nat × Value)), (Instr.findKey kt kv en).run P w = .ok res' w → (∀ v, o = some v → ∃ j u, res' = some (j, u) ∧ VRel φ v u) → (o = none → res' = none) → lookAns P et c o = some res → ∃ u, (do
        let (v, ok) ← match ← Instr.findKey kt kv en with
          | some (_, v) => pure (v, true)
          | none => pure (← zeroValue et, false)
        pure (if c then .tuple #[v, .bool ok] else v) : Sem Value).run P w = .ok u w ∧ VRel φ res u := fun en o res' hr hs hn ha => by
      unfold lookAns at ha
      split at ha
      · rename_i a
        obtain ⟨j, v, rfl, hav⟩ := hs a rfl
        cases ha
        cases c with
        | true => exact ⟨.tuple #[v, .bool true], by simp [hr], .tup _ _ (.cons _ _ _ _ hav (.cons _ _ _ _ (.bool _) .nil))⟩
        | false => exact ⟨v, by simp [hr], hav⟩
      · obtain rfl := hn rfl
        split at ha
        · rename_i z hz
          obtain ⟨zv, hzr, rfl⟩ := run_zero hz w
          cases ha
          cases c with
          | true => exact ⟨.tuple #[zv, .bool false], by simp [hr, hzr], .tup _ _ (.cons _ _ _ _ (ofConst_rel φ zv) (.cons _ _ _ _ (.bool _) .nil))⟩
          | false => exact ⟨zv, by simp [hr, hzr], ofConst_rel φ zv⟩
        · cases ha
    split at h
    · rename_i kd l htab
      split at h
      · rename_i n hkey
        obtain ⟨⟨k0, hk0⟩, rfl⟩ := tabKey_some hkey
        have hkv := rel_int hk
        subst hkv
        unfold tabIn at htab
        split at htab
        · rename_i x
          split at htab
          · rename_i kd' l' hx
            cases htab
            cases hm with
            | mapv _ p hp =>
              obtain ⟨p', ob, hp', hw, hor⟩ := r.obj x _ hx
              rw [hp] at hp'; cases hp'
              cases hor with
              | tab _ _ es cl h1 h2 h3 h4 =>
                have hfit : keyFits P kt (.int kd (.ofNat n)) = true := by unfold keyFits; rw [hk0]
                have fk : ∀ res', Instr.findNow (.int k0) (.int kd (.ofNat n)) es.toList 0 = some res' → (Instr.findKey kt (.int kd (.ofNat n)) es.toList).run P w = .ok res' w := fun res' hf => by
                  simp only [Instr.findKey, Sem.run_bind, run_uty hk0, Result.andThen_ok, hf, Sem.run_pure]
                have fin : ∀ res', Instr.findNow (.int k0) (.int kd (.ofNat n)) es.toList 0 = some res' → (∀ v, tabAt n l = some v → ∃ j u, res' = some (j, u) ∧ VRel φ v u) → (tabAt n l = none → res' = none) → ∃ u, (Instr.lookup t (.map (some p.blk)) (.int kd (.ofNat n)) c).run P w = .ok u w ∧ VRel φ res u := fun res' hf g1 g2 => by
                  obtain ⟨u, hrun, hrel⟩ := main es.toList (tabAt n l) res' (fk res' hf) g1 g2 h
                  refine ⟨u, ?_, hrel⟩
                  simp only [Instr.lookup, Sem.run_bind, run_uty hu, Result.andThen_ok, Sem.run_pure, run_getObj_map hw, checkKey_ok (VRel.int (φ := φ) kd (.ofNat n)) hfit]
                  simp only [Sem.run_bind] at hrun
                  exact hrun
                rcases findNow_tab (k0 := k0) (k := kd) (n := n) es.toList 0 (fun e he => by obtain ⟨q, _, hq, _⟩ := h3 e he; exact ⟨q.1, hq⟩) with ⟨g1, g2⟩ | ⟨j, e, g1, g2, g3⟩
                · refine fin none g1 (fun v hv => ?_) (fun _ => rfl)
                  obtain ⟨e, he, hke⟩ := h4 _ (tabAt_some hv)
                  exact (g2 e he hke).elim
                · obtain ⟨q, hq, hqk, hqv⟩ := h3 e g1
                  rw [g2] at hqk
                  injection hqk with _ hqk
                  have hqn : n = q.1 := Int.ofNat.inj hqk
                  obtain ⟨q1, q2⟩ := q
                  subst hqn
                  refine fin _ g3 (fun v hv => ⟨j, e.val, rfl, ?_⟩) (fun hn => ?_)
                  · rw [nodup_key h2 (tabAt_some hv) hq]; exact hqv
                  · exact (tabAt_none hn _ hq rfl).elim
          · cases htab
        · cases htab
      · cases h
    · split at h
      · rename_i es hfit hes
        have mid : ∀ (en : List MapEntry), ERel φ es en → ∃ u, (do
            let (v, ok) ← match ← Instr.findKey kt kv en with
              | some (_, v) => pure (v, true)
              | none => pure (← zeroValue et, false)
            pure (if c then .tuple #[v, .bool ok] else v) : Sem Value).run P w = .ok u w ∧ VRel φ res u := fun en her => by
          split at h
          · rename_i j a hf
            obtain ⟨res', hr, hfr⟩ := find_rel r hk her (keyFits_uty hfit) hf
            refine main en (some a) res' hr (fun v hv => ?_) (fun hn => by cases hn) h
            cases hv
            cases res' with
            | none => exact hfr.elim
            | some jv => exact ⟨jv.1, jv.2, rfl, hfr.2⟩
          · rename_i hf
            obtain ⟨res', hr, hfr⟩ := find_rel r hk her (keyFits_uty hfit) hf
            refine main en none res' hr (fun v hv => by cases hv) (fun _ => ?_) h
            cases res' with
            | some jv => exact hfr.elim
            | none => rfl
          · cases h
        rcases entries_rel r hm hes with ⟨rfl, rfl⟩ | ⟨x, p, en, cl, rfl, hp, hx, rfl, hw, her⟩
        · obtain ⟨u, hrun, hrel⟩ := mid [] .nil
          refine ⟨u, ?_, hrel⟩
          simp only [Instr.lookup, Sem.run_bind, run_uty hu, Result.andThen_ok, Sem.run_pure, checkKey_ok hk hfit]
          simp only [Sem.run_bind] at hrun
          exact hrun
        · obtain ⟨u, hrun, hrel⟩ := mid en.toList her
          refine ⟨u, ?_, hrel⟩
          simp only [Instr.lookup, Sem.run_bind, run_uty hu, Result.andThen_ok, Sem.run_pure, run_getObj_map hw, checkKey_ok hk hfit]
          simp only [Sem.run_bind] at hrun
          exact hrun
      · cases h
  · cases h

end
end Go.Sx
