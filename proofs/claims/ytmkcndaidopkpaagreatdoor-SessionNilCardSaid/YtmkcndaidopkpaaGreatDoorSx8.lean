/- Are two values the same? Maps. -/
import Derived.Test.YtmkcndaidopkpaaGreatDoorSx7
import Derived.Laws.StructEq
import Derived.DeepKeys
namespace Go.Sx
noncomputable section
variable {P : Program} {φ : Em} {H : Hp} {w : World}

theorem HRel.cells_at (r : HRel P φ H w) {x : K} {l : List AV} {s : Bool} {p : Pl} (hx : H.get x = some (.cells l s)) (hp : φ x = some p) :
    ∃ c elem fr, w.heap[p.blk]? = some (.cells c elem fr) ∧ c.size = p.row ∧ p.off + l.length ≤ c.size ∧ (∀ (k : Nat) (a : AV), l[k]? = some a → ∃ v, c[p.off + k]? = some v ∧ VRel φ a v) ∧ (s = false → fr = (0, 0)) ∧ (fr.1 = fr.2 ∨ c.size ≤ fr.1) := by
  obtain ⟨q, ob, hq, hw, hr⟩ := r.obj x _ hx
  rw [hp] at hq; cases hq
  cases hr with
  | cells _ _ c elem fr h1 h2 h3 h4 h5 => exact ⟨c, elem, fr, hw, h1, h2, h3, h4, h5⟩

theorem run_sameAddr_other {a b : Addr} {c d : Array Value} {e f : TypeId} (ha : w.heap[a.block]? = some (.cells c e (0, 0))) (hb : w.heap[b.block]? = some (.cells d f (0, 0))) (hne : a.block ≠ b.block) :
    (sameAddr a b).run P w = .ok false w := by
  have f1 : ∀ n, w.frozen? { block := a.block, off := n } = false := fun n => by simp [World.frozen?, ha]
  have f2 : ∀ n, w.frozen? { block := b.block, off := n } = false := fun n => by simp [World.frozen?, hb]
  have g1 : w.frozen? a = false := by have := f1 a.off; simpa [World.frozen?] using this
  have g2 : w.frozen? b = false := by have := f2 b.off; simpa [World.frozen?] using this
  have s1 : w.shape? a.block = some (e, c.size) := by simp [World.shape?, ha]
  have s2 : w.shape? b.block = some (f, d.size) := by simp [World.shape?, hb]
  have h : (a.block == b.block) = false := by simpa using hne
  simp [sameAddr, h, g1, g2, noView, viewAt, s1, s2, mayBeOne, stringish, f1, f2]

theorem eqPtr_rel (r : HRel P φ H w) {a b : AV} {u v : Value} {res : Bool} (ha : VRel φ a u) (hb : VRel φ b v) (h : eqPtr H a b = some res) :
    (u = .pointer none ∧ v = .pointer none ∧ res = true) ∨ (u = .pointer none ∧ (∃ c, v = .pointer (some c)) ∧ res = false) ∨ ((∃ c, u = .pointer (some c)) ∧ v = .pointer none ∧ res = false) ∨
      (∃ c d, u = .pointer (some c) ∧ v = .pointer (some d) ∧ (sameAddr c d).run P w = .ok res w) := by
  unfold eqPtr at h
  split at h
  · cases h; cases ha; cases hb; exact .inl ⟨rfl, rfl, rfl⟩
  · cases h; cases ha
    obtain ⟨p, _, rfl⟩ := rel_ptr hb
    exact .inr (.inl ⟨rfl, ⟨_, rfl⟩, rfl⟩)
  · cases h; cases hb
    obtain ⟨p, _, rfl⟩ := rel_ptr ha
    exact .inr (.inr (.inl ⟨⟨_, rfl⟩, rfl, rfl⟩))
  · rename_i x o y p
    obtain ⟨q, hq, rfl⟩ := rel_ptr ha
    obtain ⟨q', hq', rfl⟩ := rel_ptr hb
    refine .inr (.inr (.inr ⟨_, _, rfl, rfl, ?_⟩))
    split at h
    · rename_i he
      have := K.eq_true he; subst this
      rw [hq] at hq'; cases hq'
      cases h
      simp only [sameAddr, beq_self_eq_true, if_true, beq_nat]
      by_cases hop : o = p
      · subst hop; simp
      · have : ¬ q.off + o = q.off + p := by omega
        simp [hop]
    · rename_i he
      have hne := K.eq_false he
      split at h
      · rename_i l1 l2 hx hy
        cases h
        obtain ⟨c, e, fr, hw, _, _, _, hf, _⟩ := r.cells_at hx hq
        obtain ⟨c', e', fr', hw', _, _, _, hf', _⟩ := r.cells_at hy hq'
        have := hf rfl; subst this
        have := hf' rfl; subst this
        exact run_sameAddr_other (a := ⟨q.blk, _, none⟩) (b := ⟨q'.blk, _, none⟩) hw hw' (fun e => hne (r.inj x y _ _ q q' hx hy hq hq' e))
      · cases h
  · cases h

theorem fields_of {t : TypeId} {fs : Array Field} (h : P.underlying t = some (.struct fs)) : P.fieldsOf t = fs := by simp [Program.fieldsOf, h]

theorem eq_rel (r : HRel P φ H w) : ∀ (d : Nat) (t : TypeId) {a b : AV} {u v : Value} {res : Bool}, VRel φ a u → VRel φ b v → xeq P H d t a b = some res → (Op.equalIn d t u v).run P w = .ok res w
  | 0, t, a, b, u, v, res, ha, hb, h => by cases h
  | d + 1, t, a, b, u, v, res, ha, hb, h => by
    unfold xeq at h
    split at h
    · rename_i hu
      split at h
      · rename_i x y hx hy
        cases h
        have := asBool_some hx; subst this
        have := asBool_some hy; subst this
        have := rel_bool ha; subst this
        have := rel_bool hb; subst this
        rw [run_equalIn_bool' w d t x y hu]
        cases x <;> cases y <;> rfl
      · cases h
    · rename_i k0 hu
      split at h
      · rename_i k x k' y hx hy
        split at h
        · rename_i hk
          cases h
          have := kNat_inj hk; subst this
          have := asInt_some hx; subst this
          have := asInt_some hy; subst this
          have := rel_int ha; subst this
          have := rel_int hb; subst this
          rw [run_equalIn_int w d t k k0 x y hu, eqI_eq]
        · cases h
      · cases h
    · rename_i hu
      split at h
      · rename_i x y hx hy
        cases h
        have := asStr_some hx; subst this
        have := asStr_some hy; subst this
        obtain ⟨s, rfl, rfl⟩ := rel_str ha
        obtain ⟨s', rfl, rfl⟩ := rel_str hb
        rw [run_equalIn_string w d t s s' hu, eqL_eq, bytesOf_beq]
      · cases h
    · rename_i e hu
      split at h
      · rename_i n hn
        rcases eqPtr_rel r ha hb h with ⟨rfl, rfl, rfl⟩ | ⟨rfl, ⟨c, rfl⟩, rfl⟩ | ⟨⟨c, rfl⟩, rfl, rfl⟩ | ⟨c, c', rfl, rfl, hs⟩
        · simp [Op.equalIn, run_uty hu]
        · simp [Op.equalIn, run_uty hu]
        · simp [Op.equalIn, run_uty hu]
        · simp [Op.equalIn, run_uty hu, run_sizeOf hn, hs]
      · cases h
    · rename_i ms hu
      split at h
      · cases h; cases ha; cases hb; simp [Op.equalIn, run_uty hu]
      · cases h; cases ha; cases hb; simp [Op.equalIn, run_uty hu]
      · cases h; cases ha; cases hb; simp [Op.equalIn, run_uty hu]
      · cases h
    · rename_i fs hu
      split at h
      · rename_i xs ys hx hy hst
        have := asAgg_some hx; subst this
        have := asAgg_some hy; subst this
        obtain ⟨us, rfl, hur⟩ := rel_agg ha
        obtain ⟨vs, rfl, hvr⟩ := rel_agg hb
        rw [run_equalIn_struct w d t us vs (by rw [fields_of hu]; exact hu) hst, fields_of hu]
        generalize fs.toList = L at h
        induction L generalizing res with
        | nil => cases h; simp [Op.eqFields]
        | cons f L ih =>
          simp only [List.foldr_cons] at h
          split at h
          · cases h
          · rename_i hname _
            split at h
            · rename_i a' b' ha' hb'
              obtain ⟨u', hu1, hu2⟩ := part_rel hur ha' w
              obtain ⟨v', hv1, hv2⟩ := part_rel hvr hb' w
              cases hq : xeq P H d f.type a' b' with
              | none => rw [hq] at h; cases h
              | some q =>
                have he := eq_rel r d f.type hu2 hv2 hq
                rw [hq] at h
                cases q with
                | true =>
                  simp only [Op.eqFields, hname, ne_eq, not_false_eq_true, if_true, Sem.run_bind, hu1, hv1, he, Result.andThen_ok, Bool.not_true, Bool.false_eq_true, if_false]
                  exact ih _ h
                | false =>
                  cases h
                  simp [Op.eqFields, hname, hu1, hv1, he]
            · cases h
      · cases h
    · rename_i n e hu
      split at h
      · rename_i xs ys s hx hy hs
        have := asAgg_some hx; subst this
        have := asAgg_some hy; subst this
        obtain ⟨us, rfl, hur⟩ := rel_agg ha
        obtain ⟨vs, rfl, hvr⟩ := rel_agg hb
        simp only [Op.equalIn, Sem.run_bind, run_uty hu, Result.andThen_ok, run_sizeOf hs]
        simp only [Std.Legacy.Range.forIn_eq_forIn_range', Std.Legacy.Range.size, Nat.sub_zero, Nat.add_sub_cancel, Nat.div_one]
        rw [List.range_eq_range'] at h
        generalize List.range' 0 n = L at h
        induction L generalizing res with
        | nil => cases h; simp
        | cons i L ih =>
          simp only [List.foldr_cons] at h
          split at h
          · rename_i a' b' ha' hb'
            obtain ⟨u', hu1, hu2⟩ := part_rel hur ha' w
            obtain ⟨v', hv1, hv2⟩ := part_rel hvr hb' w
            cases hq : xeq P H d e a' b' with
            | none => rw [hq] at h; cases h
            | some q =>
              have he := eq_rel r d e hu2 hv2 hq
              rw [hq] at h
              cases q with
              | true =>
                simp only [List.forIn_cons, Sem.run_bind, hu1, hv1, he, Result.andThen_ok, Bool.not_true, Bool.false_eq_true, if_false, Sem.run_pure]
                exact ih _ h
              | false =>
                cases h
                simp [hu1, hv1, he]
          · cases h
      · cases h
    · rename_i e hu
      split at h
      · cases h; cases ha; cases hb; simp [Op.equalIn, run_uty hu]
      · cases h; cases ha
        obtain ⟨q, c', _, rfl, _⟩ := rel_sl hb
        simp [Op.equalIn, run_uty hu]
      · cases h; cases ha; cases hb; simp [Op.equalIn, run_uty hu]
      · cases h; cases hb
        obtain ⟨q, c', _, rfl, _⟩ := rel_sl ha
        simp [Op.equalIn, run_uty hu]
      · cases h; cases ha; cases hb; simp [Op.equalIn, run_uty hu]
      · cases h
    · rename_i k e hu
      split at h
      · cases h; cases ha; cases hb; simp [Op.equalIn, run_uty hu]
      · cases h; cases ha; cases hb; simp [Op.equalIn, run_uty hu]
      · cases h; cases ha; cases hb; simp [Op.equalIn, run_uty hu]
      · cases h
    · rename_i p1 p2 p3 hu
      split at h
      · cases h; cases ha; cases hb; simp [Op.equalIn, run_uty hu]
      · cases h; cases ha; cases hb; simp [Op.equalIn, run_uty hu]
      · cases h; cases ha; cases hb; simp [Op.equalIn, run_uty hu]
      · cases h
    · cases h

theorem sort_1 {a : AV} (h : sortOf a = 1) : a = .nili := by cases a <;> first | rfl | cases h
theorem sort_2 {a : AV} (h : sortOf a = 2) : ∃ l, a = .agg l := by cases a <;> first | exact ⟨_, rfl⟩ | cases h
theorem sort_rel {a : AV} {u : Value} (h : VRel φ a u) (h0 : sortOf a ≠ 0) : (u = .nilIface ↔ sortOf a = 1) ∧ ((∃ cs, u = .agg cs) ↔ sortOf a = 2) := by
  cases h <;> simp [sortOf] at h0 ⊢

theorem eqGuard_other {op : BinOp} {t : TypeId} {x y : Operand} {u v : Value} (h1 : ¬ (u = .nilIface ∧ v = .nilIface)) (h2 : ¬ ((∃ cs, u = .agg cs) ∧ ∃ cs, v = .agg cs)) (w : World) :
    (eqGuard op t x y u v).run P w = .ok () w := by
  cases op <;> simp only [eqGuard] <;> first | rfl | skip
  all_goals
    cases u <;> first
      | rfl
      | (cases v <;> first | rfl | exact absurd ⟨rfl, rfl⟩ h1 | exact absurd ⟨⟨_, rfl⟩, ⟨_, rfl⟩⟩ h2)

theorem guard_rel {x y : Operand} {t : TypeId} {a b : AV} {u v : Value} (ha : VRel φ a u) (hb : VRel φ b v) (h : guardEq P x y t a b = true) (op : BinOp) (w : World) :
    (eqGuard op t x y u v).run P w = .ok () w := by
  unfold guardEq at h
  split at h
  · cases h
  · cases h
  · rename_i ea eb
    have := sort_1 ea; subst this
    have := sort_1 eb; subst this
    cases ha; cases hb
    cases op <;> simp only [eqGuard] <;> first | rfl | skip
    all_goals (cases x <;> cases y <;> first | rfl | (simp [isConst] at h; done))
  · rename_i ea eb
    obtain ⟨l, rfl⟩ := sort_2 ea
    obtain ⟨l', rfl⟩ := sort_2 eb
    cases ha; cases hb
    have h : P.eqGuardType P.depth t = false := by simpa using h
    exact run_eqGuard_agg w op t x y _ _ h
  · rename_i n0 n1 n2 n3
    have a0 : sortOf a ≠ 0 := n0
    have b0 : sortOf b ≠ 0 := n1
    have sa := sort_rel ha a0
    have sb := sort_rel hb b0
    refine eqGuard_other ?_ ?_ w
    · rintro ⟨hu, hv⟩
      exact n2 (sa.1.1 hu) (sb.1.1 hv)
    · rintro ⟨hu, hv⟩
      exact n3 (sa.2.1 hu) (sb.2.1 hv)

/-- == and != on what are not numbers, strings or floats. -/
theorem eqAny_rel (r : HRel P φ H w) {neg : Bool} {x y : Operand} {t : TypeId} {a b res : AV} {u v : Value} (ha : VRel φ a u) (hb : VRel φ b v) (h : eqAny P H neg t x y a b = some res) :
    (eqGuard (if neg then .neq else .eql) t x y u v).run P w = .ok () w ∧ ∃ q : Bool, (Op.equal t u v).run P w = .ok q w ∧ res = .bool (if neg then !q else q) := by
  unfold eqAny at h
  split at h
  · rename_i hg
    split at h
    · rename_i q hq
      cases h
      refine ⟨guard_rel ha hb hg _ w, q, eq_rel r 10000 t ha hb hq, ?_⟩
      cases neg <;> rfl
    · cases h
  · cases h

end
end Go.Sx
