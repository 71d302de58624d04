/- What an operation looks at; when two values are the same. -/
import Derived.Test.YtmkcndaidopkpaaGreatDoorSx21
namespace Go.Sx
noncomputable section
variable {P : Program}

theorem xop_congr {ρ ρ' : Operand → AV} (H : Hp) (x : K) (o : Op) (h : ∀ y ∈ o.operands, ρ y = ρ' y) : xop P ρ H x o = xop P ρ' H x o := by
  have hm : ∀ (l : List Operand), (∀ y ∈ l, ρ y = ρ' y) → l.map ρ = l.map ρ' := fun l hl => List.map_congr_left hl
  have hp : ∀ (l : List (Nat × Operand)), (∀ p ∈ l, ρ p.2 = ρ' p.2) → (l.map fun p => (p.1, ρ p.2)) = (l.map fun p => (p.1, ρ' p.2)) := fun l hl => List.map_congr_left fun p hp => by rw [hl p hp]
  cases o <;> simp only [Op.operands] at h <;> simp only [xop]
  case move a => rw [h a (by simp)]
  case assign a => rw [h a (by simp)]
  case pick c a b => rw [h c (by simp), h a (by simp), h b (by simp)]
  case box t a => rw [h a (by simp)]
  case build t ps => rw [hp ps.toList (fun p hm => h p.2 (by simp; exact ⟨p.1, by simpa using hm⟩))]
  case buildSlice t n ps => rw [hp ps.toList (fun p hm => h p.2 (by simp; exact ⟨p.1, by simpa using hm⟩))]
  case load t a => rw [h a (by simp)]
  case store t a v => rw [h a (by simp), h v (by simp)]
  case nilCheck a => rw [h a (by simp)]
  case binOp op t a b y => rw [h a (by simp), h b (by simp)]
  case unOp op t a => rw [h a (by simp)]
  case convert s d a => rw [h a (by simp)]
  case makeInterface t a => rw [h a (by simp)]
  case makeFunc fn first cap => rw [hm first.toList (fun y hy => h y (by simp; exact .inl (by simpa using hy))), hm cap.toList (fun y hy => h y (by simp; exact .inr (by simpa using hy)))]
  case makeMap t r =>
    cases r with
    | none => rfl
    | some a => simp only; rw [h a (by simp)]
  case makeSlice t l c => rw [h l (by simp), h c (by simp)]
  case slice t a lo hi mx =>
    rw [h a (by simp)]
    have e1 : lo.map ρ = lo.map ρ' := by cases lo <;> simp; exact h _ (by simp)
    have e2 : hi.map ρ = hi.map ρ' := by cases hi <;> simp; exact h _ (by simp)
    have e3 : mx.map ρ = mx.map ρ' := by cases mx <;> simp; exact h _ (by simp)
    rw [e1, e2, e3]
  case fieldAddr s a f => rw [h a (by simp)]
  case field s a f => rw [h a (by simp)]
  case indexAddr t a i => rw [h a (by simp), h i (by simp)]
  case index t a i => rw [h a (by simp), h i (by simp)]
  case lookup t m k c => rw [h m (by simp), h k (by simp)]
  case mapUpdate t m k v => rw [h m (by simp), h k (by simp), h v (by simp)]
  case insert t m k v => rw [h m (by simp), h k (by simp), h v (by simp)]
  case typeAssert a f t c => rw [h a (by simp)]
  case extract a i => rw [h a (by simp)]
  case call c =>
    obtain ⟨callee, cargs, ctypes⟩ := c
    have hargs : ∀ y ∈ cargs, ρ y = ρ' y := fun y hy => h y (by cases callee <;> simp [Call.operands, hy])
    have e := hm cargs.toList (fun y hy => hargs y (by simpa using hy))
    cases callee with
    | builtin b => simp only [e]
    | value f => simp only [e]; rw [h f (by simp [Call.operands])]
    | invoke r name => simp only [e]; rw [h r (by simp [Call.operands])]

theorem okV_val {o : Option AV} {r : XR} (h : okV o = some r) : ∃ v, r = .val v := by
  obtain ⟨v, _, e⟩ := okV_some h
  exact ⟨v, e⟩
theorem xbuiltin_val {H : Hp} {b : Builtin} (hb : isPureB b = true) {ts : List TypeId} {l : List AV} {r : XR} (h : xbuiltin P H b ts l = some r) : ∃ v, r = .val v := by
  unfold xbuiltin at h
  split at h <;> first
    | exact okV_val h
    | (cases hb; done)
    | (cases h; done)
    | (cases h; exact ⟨_, rfl⟩)
    | (split at h <;> first | (cases h; done) | (cases h; exact ⟨_, rfl⟩))

theorem xop_pure_val {ρ : Operand → AV} {H : Hp} {x : K} {o : Op} {r : XR} (hk : kindOf P o = .pure) (h : xop P ρ H x o = some r) : ∃ v, r = .val v := by
  cases o <;> simp only [xop] at h <;> simp only [kindOf, reduceCtorEq] at hk <;> try exact okV_val h
  case move a => cases h; exact ⟨_, rfl⟩
  case assign a => cases h; exact ⟨_, rfl⟩
  case pick c a b => split at h <;> first | (cases h; exact ⟨_, rfl⟩) | cases h
  case convert s d a =>
    have hd : (match P.underlying d with | some (.int _) | some (.float _) | some (.complex _) => true | _ => false) = true := by
      revert hk; split <;> intro hk <;> simp_all
    unfold xconvert at h
    split at h <;> first
      | (cases h; done)
      | (cases h; exact ⟨_, rfl⟩)
      | (rename_i hd'; rw [hd'] at hd; cases hd; done)
      | (rename_i hd' _; rw [hd'] at hd; cases hd; done)
      | (split at h <;> first | (cases h; done) | (cases h; exact ⟨_, rfl⟩))
  case makeInterface t a => split at h <;> first | (cases h; exact ⟨_, rfl⟩) | cases h
  case makeFunc fn first cap => cases h; exact ⟨_, rfl⟩
  case call c =>
    obtain ⟨callee, cargs, ctypes⟩ := c
    cases callee with
    | builtin b => exact xbuiltin_val (by cases b <;> first | rfl | (simp at hk)) h
    | value f => cases hk
    | invoke r name => cases hk

/-! ## the same -/
theorem eqFlat_eq {a b : AV} (h : eqFlat a b = true) : a = b := by
  unfold eqFlat at h
  split at h
  all_goals first
    | rfl
    | (cases h; done)
    | (simp only [Bool.and_eq_true, sameB_eq, eqI_eq, eqL_eq, beq_iff_eq, beq_nat, decide_eq_true_eq] at h)
    | skip
  all_goals first
    | (subst h; rfl)
    | (rw [K.eq_true h]; done)
    | (obtain ⟨h1, rfl⟩ := h; rw [K.eq_true h1]; done)
    | (obtain ⟨h1, h2⟩ := h; rw [kNat_inj ((beq_nat _ _).trans (decide_eq_true h1)), h2]; done)
    | (obtain ⟨⟨⟨⟨⟨h1, rfl⟩, rfl⟩, rfl⟩, rfl⟩, rfl⟩ := h; rw [K.eq_true h1]; done)
    | (obtain ⟨⟨⟨⟨h1, rfl⟩, rfl⟩, rfl⟩, rfl⟩ := h; rw [kNat_inj ((beq_nat _ _).trans (decide_eq_true h1))]; done)
theorem eqFlats_eq : ∀ {l m : List AV}, eqFlats l m = true → l = m
  | [], [], _ => rfl
  | a :: l, b :: m, h => by
    simp only [eqFlats, Bool.and_eq_true] at h
    rw [eqFlat_eq h.1, eqFlats_eq h.2]
  | [], _ :: _, h => by cases h
  | _ :: _, [], h => by cases h
theorem eqAV_eq {a b : AV} (h : eqAV a b = true) : a = b := by
  unfold eqAV at h
  split at h
  · rw [eqFlats_eq h]
  · rw [eqFlats_eq h]
  · exact eqFlat_eq h

theorem sameVal_some {T : FrP} {i : I} {L : Loc} {t : Tr AV} {H : Hp} {v : AV} (h : sameVal P T i L t H v = true) : exec P T i L t H = some (.val v) := by
  unfold sameVal at h
  split at h
  · rename_i u hu
    rw [hu, eqAV_eq h]
  · cases h

end
end Go.Sx
