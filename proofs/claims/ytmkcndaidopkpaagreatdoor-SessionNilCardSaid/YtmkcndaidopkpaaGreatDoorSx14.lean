/- What is laid out for a quick run does what the operation does. -/
import Derived.Test.YtmkcndaidopkpaaGreatDoorSx13
namespace Go.Sx
noncomputable section
variable {P : Program} {T : FrP} {L : Loc} {t : Tr AV} {H : Hp}

theorem evs_eq (L : Loc) (t : Tr AV) : ∀ l : List Opd, evs L t l = l.map fun x => evo x L t
  | [] => rfl
  | x :: r => by show evo x L t :: evs L t r = _; rw [evs_eq L t r]; rfl
theorem places_map {α β : Type} (f : α → β) (pl : Nat → Option (Nat × Nat)) : ∀ (l : List (Nat × α)) {q : List (Nat × Nat × α)}, places pl l = some q → places pl (l.map fun p => (p.1, f p.2)) = some (q.map fun p => (p.1, p.2.1, f p.2.2))
  | [], q, h => by cases h; rfl
  | (i, v) :: r, q, h => by
    simp only [places] at h
    split at h
    · rename_i off size q' hp hq
      cases h
      simp only [List.map_cons, places, hp, places_map f pl r hq]
    · cases h
theorem evp_eq (L : Loc) (t : Tr AV) : ∀ l : List (Nat × Nat × Opd), evp L t l = l.map fun p => (p.1, p.2.1, evo p.2.2 L t)
  | [] => rfl
  | (i, n, x) :: r => by simp [evp, evp_eq L t r]

theorem exPick_some {c a b : AV} {r : XR} (h : exPick c a b = some r) : (c = .bool true ∧ r = .val a) ∨ (c = .bool false ∧ r = .val b) := by
  unfold exPick at h
  cases hc : asBool c with
  | none => rw [hc] at h; cases h
  | some v =>
    rw [hc] at h
    have := asBool_some hc
    cases v with
    | true => cases h; exact .inl ⟨this, rfl⟩
    | false => cases h; exact .inr ⟨this, rfl⟩

theorem asRng_form {a : AV} {p : IntKind × Rg} (h : asRng a = some p) : (∃ k n, a = .int k (.ofNat n)) ∨ ∃ k lo hi m r, a = .rng k lo hi m r := by
  unfold asRng at h
  split at h
  · exact .inl ⟨_, _, rfl⟩
  · exact .inr ⟨_, _, _, _, _, rfl⟩
  · cases h
theorem convR_form {k : IntKind} {a v : AV} (h : convR k a = some v) : ∃ s lo hi m r, a = .rng s lo hi m r := by
  unfold convR at h
  split at h
  · exact ⟨_, _, _, _, _, rfl⟩
  · cases h
theorem asInt_not {k : IntKind} {n : Int} (h : asInt (.int k n) = none) : False := by cases h
theorem iBinR_xbin {op : BinOp} {t : TypeId} {x y : Operand} {a b v : AV} (hs : isShift op = false) (hv : iBinR op (intFn op) a b = some v) : xbin P H op t x y a b = some v := by
  unfold iBinR at hv
  split at hv
  · rename_i k m h1
    have e1 := asInt_some h1; subst e1
    split at hv
    · rename_i k' n h2
      have e2 := asInt_some h2; subst e2
      simp only [xbin, hs]
      exact hv
    · rename_i h2
      have h3 := hv
      unfold rngBin at h3
      split at h3
      · rename_i p q k1 q1 h4 h5
        rcases asRng_form h5 with ⟨k2, n2, e⟩ | ⟨k2, lo, hi, m2, r2, e⟩
        · subst e; exact (asInt_not h2).elim
        · subst e
          simp only [xbin, hv]
      · cases h3
  · rename_i h1
    have h3 := hv
    unfold rngBin at h3
    split at h3
    · rename_i p q k1 q1 h4 h5
      rcases asRng_form h4 with ⟨k2, n2, e⟩ | ⟨k2, lo, hi, m2, r2, e⟩
      · subst e; exact (asInt_not h1).elim
      · subst e
        simp only [xbin, hv]
    · cases h3

theorem lay_rel {op : Op} {r : XR} (h : exec P T (lay P T op) L t H = some r) : xop P (fun y => evo (opd P T y) L t) H H.next op = some r := by
  have gen : ∀ o : Op, exec P T (.gen o) L t H = xop P (fun y => evo (opd P T y) L t) H H.next o := fun _ => rfl
  cases op <;> simp only [lay] at h <;> try exact h
  case pick c a b =>
    have h : exPick (evo (opd P T c) L t) (evo (opd P T a) L t) (evo (opd P T b) L t) = some r := h
    rcases exPick_some h with ⟨e, rfl⟩ | ⟨e, rfl⟩
    · simp only [xop, e]; rfl
    · simp only [xop, e]; rfl
  case alloc e =>
    split at h
    · rename_i z hz
      simp only [xop, hz]; exact h
    · exact h
  case build ty ps =>
    split at h
    · rename_i z pl hz hpl
      split at h
      · rename_i q hq
        have h : exBuild (cellsOf z) (evp L t q) = some r := h
        unfold exBuild at h
        rw [evp_eq] at h
        have hm := places_map (fun x => evo x L t) pl _ hq
        rw [List.map_map] at hm
        simp only [xop, xbuild, hz, hpl]
        have e : (ps.toList.map fun p => (p.1, evo (opd P T p.2) L t)) = ps.toList.map ((fun p : Nat × Opd => (p.1, evo p.2 L t)) ∘ fun p => (p.1, opd P T p.2)) := rfl
        rw [e, hm]
        simp only
        split at h
        · rename_i z' hz'
          cases h
          rfl
        · cases h
      · exact h
    · exact h
  case load ty a =>
    split at h
    · rename_i hg
      split at h
      · rename_i n hn
        simp only [xop, xload, hg, hn]; exact h
      · exact h
    · rename_i hg
      simp only [xop, xload, hg]; exact h
    · exact h
  case store ty a v =>
    split at h
    · rename_i n hn
      simp only [xop, xstore, hn]; exact h
    · exact h
  case binOp op ty a b yt =>
    split at h
    · rename_i k hu hs
      have h : okV (iBinR op (intFn op) (evo (opd P T a) L t) (evo (opd P T b) L t)) = some r := h
      obtain ⟨v, hv, rfl⟩ := okV_some h
      simp only [xop, iBinR_xbin (P := P) (H := H) (t := ty) (x := a) (y := b) hs hv]; rfl
    · rename_i e hu
      split at h
      · rename_i k hs
        have h : eqP H false (evo (opd P T a) L t) (evo (opd P T b) L t) = some r := h
        unfold eqP at h
        split at h
        · rename_i q hq
          cases h
          have hx : xeq P H 10000 ty (evo (opd P T a) L t) (evo (opd P T b) L t) = some q := by
            rw [show (10000 : Nat) = 9999 + 1 from rfl]
            unfold xeq; simp only [hu, hs]; exact hq
          simp only [xop]
          have hb : xbin P H .eql ty a b (evo (opd P T a) L t) (evo (opd P T b) L t) = some (.bool q) := by
            generalize evo (opd P T a) L t = x at hq hx
            generalize evo (opd P T b) L t = y at hq hx
            unfold eqPtr at hq
            split at hq <;> first
              | (cases hq; done)
              | (simp only [xbin, rngBin, asRng, eqAny, guardEq, sortOf, hx])
          rw [hb]; rfl
        · cases h
      · rename_i k hs
        have h : eqP H true (evo (opd P T a) L t) (evo (opd P T b) L t) = some r := h
        unfold eqP at h
        split at h
        · rename_i q hq
          cases h
          have hx : xeq P H 10000 ty (evo (opd P T a) L t) (evo (opd P T b) L t) = some q := by
            rw [show (10000 : Nat) = 9999 + 1 from rfl]
            unfold xeq; simp only [hu, hs]; exact hq
          simp only [xop]
          have hb : xbin P H .neq ty a b (evo (opd P T a) L t) (evo (opd P T b) L t) = some (.bool (!q)) := by
            generalize evo (opd P T a) L t = x at hq hx
            generalize evo (opd P T b) L t = y at hq hx
            unfold eqPtr at hq
            split at hq <;> first
              | (cases hq; done)
              | (simp only [xbin, rngBin, asRng, eqAny, guardEq, sortOf, hx])
          rw [hb]; rfl
        · cases h
      · exact h
    · exact h
  case unOp op ty a =>
    cases op <;> try exact h
    have h : exNot (evo (opd P T a) L t) = some r := h
    unfold exNot at h
    cases hc : asBool (evo (opd P T a) L t) with
    | none => rw [hc] at h; cases h
    | some b =>
      rw [hc] at h
      have hc := asBool_some hc
      cases h
      simp only [xop, hc]; rfl
  case convert s d a =>
    split at h
    · rename_i ds k hs hd
      have h : okV (convI k (evo (opd P T a) L t)) = some r := h
      obtain ⟨v, hv, rfl⟩ := okV_some h
      unfold convI at hv
      split at hv
      · rename_i k1 n h1
        have h1 := asInt_some h1
        cases hv
        simp only [xop, h1, xconvert, hs, hd]
      · obtain ⟨k1, lo, hi, m, q, e⟩ := convR_form hv
        rw [e] at hv
        simp only [xop, e, xconvert, hs, hd, hv]
    · exact h
  case fieldAddr s a f =>
    split at h
    · rename_i fd hf
      split at h
      · rename_i n hn
        simp only [xop, xfieldAddr, hf, hn]; exact h
      · exact h
    · exact h
  case indexAddr ty a i =>
    split at h
    · rename_i n e hu
      split at h
      · rename_i es hs
        simp only [xop, xindexAddr, hu, hs]; exact h
      · exact h
    · rename_i e hu
      split at h
      · rename_i es hs
        simp only [xop, xindexAddr, hu, hs]; exact h
      · exact h
    · exact h
  case call c =>
    obtain ⟨callee, cargs, ctypes⟩ := c
    cases callee with
    | value f =>
      cases f with
      | func g =>
        simp only at h
        split at h
        · rename_i hp
          have h : some (XR.call g (evs L t (cargs.toList.map (opd P T)))) = some r := h
          cases h
          simp only [xop, opd, evo_c, xcallV, callF, hp, evs_eq, List.map_map, List.nil_append, List.append_nil]
          rfl
        · exact h
      | _ => exact h
    | invoke rc name => exact h
    | builtin b =>
      cases b <;> try exact h
      simp only at h
      split at h
      · rename_i ty tr a ar hts has
        split at h
        · rename_i e hu
          have h : okV (lenS (evo (opd P T a) L t)) = some r := h
          simp only [xop, hts, has, List.map_cons, xbuiltin, xlen, hu]
          exact h
        · exact h
      · exact h

end
end Go.Sx
