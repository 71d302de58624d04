/- Maps that are written; slices. -/
import Derived.Test.YtmkcndaidopkpaaGreatDoorSx9
namespace Go.Sx
noncomputable section
variable {P : Program} {φ : Em} {H : Hp} {w : World}

theorem sameKey1_rel {a b : AV} {u v : Value} (h : sameKey1 a b = true) (ha : VRel φ a u) (hb : VRel φ b v) : u = v ∧ ∀ n, Instr.sameBits n u u = true := by
  unfold sameKey1 at h
  split at h
  · rename_i x y
    rw [sameB_eq] at h
    have := rel_bool ha; subst this
    have := rel_bool hb; subst this
    have : x = y := by simpa using h
    subst this
    exact ⟨rfl, fun n => by cases n <;> simp [Instr.sameBits]⟩
  · rename_i k m k' n
    rw [Bool.and_eq_true, eqI_eq] at h
    have hk := kNat_inj h.1; subst hk
    have hmn : m = n := by simpa using h.2
    subst hmn
    have := rel_int ha; subst this
    have := rel_int hb; subst this
    exact ⟨rfl, fun n => by cases n <;> simp [Instr.sameBits]⟩
  · rename_i x y
    rw [eqL_eq] at h
    obtain ⟨s, rfl, rfl⟩ := rel_str ha
    obtain ⟨s', rfl, rfl⟩ := rel_str hb
    have : s = s' := bytesOf_inj (by simpa using h)
    subst this
    exact ⟨rfl, fun n => by cases n <;> simp [Instr.sameBits, beq_toListBytes]⟩
  · cases h
theorem sameKeys_rel : ∀ {l m : List AV} {us vs : List Value}, sameKeys l m = true → VRels φ l us → VRels φ m vs → us = vs ∧ ∀ n, ∀ u ∈ us, Instr.sameBits n u u = true
  | [], [], _, _, _, .nil, .nil => ⟨rfl, fun _ _ h => by cases h⟩
  | [], _ :: _, _, _, h, _, _ => by cases h
  | _ :: _, [], _, _, h, _, _ => by cases h
  | x :: r, y :: q, _, _, h, .cons _ u _ us h1 h2, .cons _ v _ vs h3 h4 => by
    simp only [sameKeys, Bool.and_eq_true] at h
    obtain ⟨rfl, hs⟩ := sameKey1_rel h.1 h1 h3
    obtain ⟨rfl, hs'⟩ := sameKeys_rel h.2 h2 h4
    refine ⟨rfl, fun n u' hu => ?_⟩
    rcases List.mem_cons.1 hu with rfl | hu
    · exact hs n
    · exact hs' n u' hu
theorem sameKey_rel {a b : AV} {u v : Value} (h : sameKey a b = true) (ha : VRel φ a u) (hb : VRel φ b v) : u = v ∧ ∀ n, Instr.sameBits (n + 1) u u = true := by
  unfold sameKey at h
  split at h
  · obtain ⟨cs, rfl, h1⟩ := rel_agg ha
    obtain ⟨ds, rfl, h2⟩ := rel_agg hb
    obtain ⟨e, hs⟩ := sameKeys_rel h h1 h2
    have e' : cs = ds := Array.toList_inj.1 e
    subst e'
    refine ⟨rfl, fun n => ?_⟩
    simp only [Instr.sameBits, beq_self_eq_true, Bool.true_and, List.all_eq_true]
    rintro ⟨x, y⟩ hxy
    have : ∀ (l : List Value) (x y : Value), (x, y) ∈ l.zip l → x = y ∧ x ∈ l := by
      intro l
      induction l with
      | nil => intro x y h; simp at h
      | cons z l ih =>
        intro x y h
        simp only [List.zip_cons_cons, List.mem_cons, Prod.mk.injEq] at h
        rcases h with ⟨rfl, rfl⟩ | h
        · exact ⟨rfl, by simp⟩
        · obtain ⟨rfl, h'⟩ := ih x y h
          exact ⟨rfl, by simp [h']⟩
    obtain ⟨rfl, hm⟩ := this _ x y hxy
    exact hs n x hm
  · obtain ⟨e, hs⟩ := sameKey1_rel h ha hb
    exact ⟨e, fun n => hs (n + 1)⟩

theorem ERel.at : ∀ {l : List (AV × AV × Nat)} {es : List MapEntry} (i : Nat) {e : MapEntry}, ERel φ l es → es[i]? = some e → VRel φ (keyAt l i) e.key
  | _, _, i, e, .nil, h => by simp at h
  | _, _, 0, e, .cons k v b e' l es h1 h2 h3 h4, h => by simp at h; subst h; exact h1
  | _, _, i + 1, e, .cons k v b e' l es h1 h2 h3 h4, h => ERel.at i h4 (by simpa using h)
theorem ERel.modify : ∀ {l : List (AV × AV × Nat)} {es : List MapEntry} (i : Nat) {k v : AV} {ku vu : Value}, ERel φ l es → VRel φ k ku → VRel φ v vu → ERel φ (setVal k v l i) (es.modify i fun e => { e with key := ku, val := vu })
  | _, _, i, _, _, _, _, .nil, _, _ => by simp [setVal]; exact .nil
  | _, _, 0, _, _, _, _, .cons k v b e' l es h1 h2 h3 h4, hk, hv => by simp [setVal]; exact .cons _ _ _ _ _ _ hk hv h3 h4
  | _, _, i + 1, _, _, _, _, .cons k v b e' l es h1 h2 h3 h4, hk, hv => by simp [setVal]; exact .cons _ _ _ _ _ _ h1 h2 h3 (ERel.modify i h4 hk hv)
theorem ERel.snoc : ∀ {l : List (AV × AV × Nat)} {es : List MapEntry} {k v : AV} {e : MapEntry} {b : Nat}, ERel φ l es → VRel φ k e.key → VRel φ v e.val → e.born = b → ERel φ (l ++ [(k, v, b)]) (es ++ [e])
  | _, _, _, _, _, _, .nil, hk, hv, hb => .cons _ _ _ _ _ _ hk hv hb .nil
  | _, _, _, _, _, _, .cons k v b e' l es h1 h2 h3 h4, hk, hv, hb => .cons _ _ _ _ _ _ h1 h2 h3 (ERel.snoc h4 hk hv hb)
theorem ERel.erase : ∀ {l : List (AV × AV × Nat)} {es : List MapEntry} (i : Nat), ERel φ l es → ERel φ (dropAt l i) (es.eraseIdx i)
  | _, _, i, .nil => by simp [dropAt]; exact .nil
  | _, _, 0, .cons k v b e' l es h1 h2 h3 h4 => by simp [dropAt]; exact h4
  | _, _, i + 1, .cons k v b e' l es h1 h2 h3 h4 => by simp [dropAt]; exact .cons _ _ _ _ _ _ h1 h2 h3 (ERel.erase i h4)

theorem findM_lt {t : TypeId} {k a : AV} : ∀ {l : List (AV × AV × Nat)} {i j : Nat}, findM P H t k l i = some (some (j, a)) → i ≤ j ∧ j < i + l.length
  | [], i, j, h => by cases h
  | (x, v, b) :: l, i, j, h => by
    simp only [findM] at h
    split at h
    · cases h; simp
    · obtain ⟨h1, h2⟩ := findM_lt h
      simp; omega
    · cases h

theorem set_heap (w : World) (b : Nat) (o : Obj) (c : Nat) (h : c ≠ b) : (w.heap.setIfInBounds b o)[c]? = w.heap[c]? := Array.getElem?_setIfInBounds_ne (Ne.symm h)
theorem run_setObj_map {b : Nat} {en : Array MapEntry} {c : Nat} {o : Obj} (h : w.heap[b]? = some (.map en c)) : (setObj b o).run P w = .ok () { w with heap := w.heap.setIfInBounds b o } := by
  simp [setObj, Sem.run, h]

/-- a map is another one now. -/
theorem put_map (r : HRel P φ H w) {x : K} {es es' : List (AV × AV × Nat)} {c c' : Nat} {p : Pl} {en en' : Array MapEntry} (hx : H.get x = some (.map es c)) (hp : φ x = some p) (hw : w.heap[p.blk]? = some (.map en c)) (he : ERel φ es' en'.toList) :
    HRel P φ (H.put x (.map es' c')) { w with heap := w.heap.setIfInBounds p.blk (.map en' c') } ∧ Ext φ φ H (H.put x (.map es' c')) w { w with heap := w.heap.setIfInBounds p.blk (.map en' c') } := by
  have hlt := (Array.getElem?_eq_some_iff.1 hw).1
  have hb : (w.heap.setIfInBounds p.blk (.map en' c'))[p.blk]? = some (.map en' c') := by simp [hlt]
  exact ⟨r.put hx hp hb (.map _ _ _ he) (fun b hb => set_heap w _ _ b hb), Ext.put hx hp (by simp) (fun b hb => set_heap w _ _ b hb) rfl rfl rfl (fun e he => by simp [elemOf, hw] at he)⟩

theorem mapUpdate_rel (r : HRel P φ H w) {t : TypeId} {m k v : AV} {mu ku vu : Value} {H' : Hp} (hm : VRel φ m mu) (hk : VRel φ k ku) (hv : VRel φ v vu) (h : xmapUpdate P H t m k v = some H') :
    ∃ w', (Instr.mapUpdate t mu ku vu).run P w = .ok () w' ∧ HRel P φ H' w' ∧ Ext φ φ H H' w w' := by
  unfold xmapUpdate at h
  split at h
  · rename_i kt et x hu
    split at h
    · rename_i es c hfit hx
      cases hm with
      | mapv _ p hp =>
        obtain ⟨en, hw, her⟩ := r.map_at hx hp
        split at h
        · rename_i i a hf
          split at h
          · rename_i hsame
            cases h
            obtain ⟨res', hr, hfr⟩ := find_rel r hk her (keyFits_uty hfit) hf
            cases res' with
            | none => exact hfr.elim
            | some jv =>
              obtain ⟨j, v0⟩ := jv
              obtain ⟨rfl, _⟩ := hfr
              have hlt := (findM_lt hf).2
              have hlt' : i < en.size := by have := her.length; simp at this; omega
              have hget : en[i]? = some en[i] := Array.getElem?_eq_getElem hlt'
              have hkey := her.at i (e := en[i]) (by simp [hlt'])
              obtain ⟨hkk, hbits⟩ := sameKey_rel hsame hkey hk
              have hstay : (Instr.keyThatStays ku ku).run P w = .ok ku w := by
                have hb := hbits 9999
                rw [hkk] at hb
                simp only [Instr.keyThatStays]
                rw [show (10000 : Nat) = 9999 + 1 from rfl, hb]; rfl
              have her' : ERel φ (setVal k v es i) (en.modify i fun e => { e with key := ku, val := vu }).toList := by
                rw [Array.toList_modify]; exact her.modify i hk hv
              obtain ⟨g1, g2⟩ := put_map (c' := c) r hx hp hw her'
              refine ⟨_, ?_, g1, g2⟩
              simp only [Instr.mapUpdate, Sem.run_bind, run_uty hu, Result.andThen_ok, run_getObj_map hw, checkKey_ok hk hfit, hr, hget, Option.map_some, Option.getD_some, hkk, hstay, run_setObj_map hw]
          · cases h
        · rename_i hf
          cases h
          obtain ⟨res', hr, hfr⟩ := find_rel r hk her (keyFits_uty hfit) hf
          cases res' with
          | some jv => exact hfr.elim
          | none =>
            have her' : ERel φ (es ++ [(k, v, c)]) (en.push { key := ku, val := vu, born := c }).toList := by
              rw [Array.toList_push]; exact her.snoc hk hv rfl
            obtain ⟨g1, g2⟩ := put_map (c' := c + 1) r hx hp hw her'
            refine ⟨_, ?_, g1, g2⟩
            simp only [Instr.mapUpdate, Sem.run_bind, run_uty hu, Result.andThen_ok, run_getObj_map hw, checkKey_ok hk hfit, hr, run_setObj_map hw]
        · cases h
    · cases h
  · cases h

theorem delete_rel (r : HRel P φ H w) {t : TypeId} {m k : AV} {mu ku : Value} {x : XR} (hm : VRel φ m mu) (hk : VRel φ k ku) (h : xdelete P H t m k = some x) {ts : Array TypeId} {args : Array Value} {ty : TypeId}
    (ht : ts[0]? = some t) (h0 : args[0]? = some mu) (h1 : args[1]? = some ku) : OpRes P φ H w H.next (do pure (.value (← Builtin.delete_ ts ty args))) x := by
  unfold xdelete at h
  split at h
  · rename_i kt et y hu
    split at h
    · rename_i es c hfit hx
      cases hm with
      | mapv _ p hp =>
        obtain ⟨en, hw, her⟩ := r.map_at hx hp
        split at h
        · rename_i i a hf
          cases h
          obtain ⟨res', hr, hfr⟩ := find_rel r hk her (keyFits_uty hfit) hf
          cases res' with
          | none => exact hfr.elim
          | some jv =>
            obtain ⟨j, v0⟩ := jv
            obtain ⟨rfl, _⟩ := hfr
            have her' : ERel φ (dropAt es i) (en.eraseIdxIfInBounds i).toList := by
              have : (en.eraseIdxIfInBounds i).toList = en.toList.eraseIdx i := by simp
              rw [this]; exact her.erase i
            obtain ⟨g1, g2⟩ := put_map (c' := c) r hx hp hw her'
            refine ⟨φ, _, .tuple #[], _, ?_, .inl rfl, .tup _ _ .nil, g1, g2⟩
            simp only [Builtin.delete_, ht, h0, h1, Sem.run_bind, run_uty hu, Result.andThen_ok, run_getObj_map hw, checkKey_ok hk hfit, hr, run_setObj_map hw, Sem.run_pure]
        · rename_i hf
          cases h
          obtain ⟨res', hr, hfr⟩ := find_rel r hk her (keyFits_uty hfit) hf
          cases res' with
          | some jv => exact hfr.elim
          | none =>
            obtain ⟨g1, g2⟩ := put_map (c' := c) r hx hp hw her
            refine ⟨φ, _, .tuple #[], _, ?_, .inl rfl, .tup _ _ .nil, g1, g2⟩
            simp only [Builtin.delete_, ht, h0, h1, Sem.run_bind, run_uty hu, Result.andThen_ok, run_getObj_map hw, checkKey_ok hk hfit, hr, run_setObj_map hw, Sem.run_pure]
        · cases h
    · cases h
  · cases h

/-! ## cuts -/
theorem bytesOf_extract (s : ByteArray) (l h : Nat) : bytesOf (s.extract l h) = ((bytesOf s).take h).drop l := by
  simp only [bytesOf, ByteArray.data_extract, Array.toList_extract, List.extract_eq_take_drop, List.map_take, List.map_drop, List.drop_take]

theorem bound_ok {v : Value} {k : IntKind} {i y : Nat} {code : BoundsCode} (hv : v = .int k (i : Int)) (h : i ≤ y) (w : World) : (Instr.sliceBound v y code).run P w = .ok i w := by
  subst hv
  have : (0 : Int) ≤ (i : Int) ∧ (i : Int) ≤ (y : Int) := by omega
  simp [Instr.sliceBound, asIntOf_int, this]

theorem optNat_rel {d n : Nat} {a : Option AV} {v : Option Value} (ha : ∀ x, a = some x → ∃ u, v = some u ∧ VRel φ x u) (hn : a = none → v = none) (h : optNat d a = some n) :
    (v = none ∧ n = d) ∨ ∃ k, v = some (.int k (n : Int)) := by
  cases a with
  | none => cases h; exact .inl ⟨hn rfl, rfl⟩
  | some x =>
    obtain ⟨u, rfl, hu⟩ := ha x rfl
    obtain ⟨k, rfl⟩ := natOf_rel hu h
    exact .inr ⟨k, rfl⟩

/-- the bounds of a cut. -/
theorem bounds_ok {isSlice : Bool} {len cap l h m : Nat} {lo hi mx : Option Value} (hl : (lo = none ∧ l = 0) ∨ ∃ k, lo = some (.int k (l : Int))) (hh : (hi = none ∧ h = len ∧ mx = none) ∨ ∃ k, hi = some (.int k (h : Int)))
    (hm : (mx = none ∧ m = cap) ∨ ∃ k, mx = some (.int k (m : Int))) (h1 : m ≤ cap) (h2 : h ≤ m ∨ hi = none) (h3 : l ≤ h) (w : World) : (Instr.sliceBounds isSlice len cap lo hi mx).run P w = .ok (l, h, m) w := by
  unfold Instr.sliceBounds
  rcases hm with ⟨rfl, rfl⟩ | ⟨km, rfl⟩
  · rcases hh with ⟨rfl, rfl, _⟩ | ⟨kh, rfl⟩
    · rcases hl with ⟨rfl, rfl⟩ | ⟨kl, rfl⟩
      · simp
      · simp [bound_ok rfl h3]
    · have h2' : h ≤ m := h2.resolve_right (by simp)
      rcases hl with ⟨rfl, rfl⟩ | ⟨kl, rfl⟩
      · simp [bound_ok rfl h2']
      · simp [bound_ok rfl h2', bound_ok rfl h3]
  · rcases hh with ⟨rfl, rfl, hc⟩ | ⟨kh, rfl⟩
    · cases hc
    · have h2' : h ≤ m := h2.resolve_right (by simp)
      rcases hl with ⟨rfl, rfl⟩ | ⟨kl, rfl⟩
      · simp [bound_ok rfl h1, bound_ok rfl h2']
      · simp [bound_ok rfl h1, bound_ok rfl h2', bound_ok rfl h3]

theorem map_rel {ρ : Operand → AV} {ρ' : Operand → Value} (hρ : ∀ y, VRel φ (ρ y) (ρ' y)) (o : Option Operand) : (∀ x, o.map ρ = some x → ∃ u, o.map ρ' = some u ∧ VRel φ x u) ∧ (o.map ρ = none → o.map ρ' = none) := by
  cases o with
  | none => exact ⟨fun x h => by simp at h, fun _ => rfl⟩
  | some y => exact ⟨fun x h => by simp at h; subst h; exact ⟨_, rfl, hρ y⟩, fun h => by simp at h⟩

theorem sliceIn_rel {t : TypeId} {a b : AV} {v : Value} {lo hi mx : Option AV} {lo' hi' mx' : Option Value} (ha : VRel φ a v)
    (hlo : (∀ x, lo = some x → ∃ u, lo' = some u ∧ VRel φ x u) ∧ (lo = none → lo' = none)) (hhi : (∀ x, hi = some x → ∃ u, hi' = some u ∧ VRel φ x u) ∧ (hi = none → hi' = none))
    (hmx : (∀ x, mx = some x → ∃ u, mx' = some u ∧ VRel φ x u) ∧ (mx = none → mx' = none)) (hnm : hi = none → mx = none) (h : xsliceIn P t a lo hi mx = some b) (w : World) :
    ∃ u, (Instr.sliceAt t v lo' hi' mx').run P w = .ok u w ∧ VRel φ b u := by
  have hnone : ∀ {n d : Nat}, ((hi' = none ∧ n = d) ∨ ∃ k, hi' = some (.int k (n : Int))) → (hi' = none ∧ n = d ∧ mx' = none) ∨ ∃ k, hi' = some (.int k (n : Int)) := by
    intro n d h
    rcases h with ⟨e1, e2⟩ | e
    · refine .inl ⟨e1, e2, ?_⟩
      cases hi with
      | none => exact hmx.2 (hnm rfl)
      | some x => obtain ⟨u, hu1, _⟩ := hhi.1 x rfl; rw [e1] at hu1; cases hu1
    · exact .inr e
  unfold xsliceIn at h
  split at h
  · rename_i s hu
    obtain ⟨bs, rfl, rfl⟩ := rel_str ha
    split at h
    · rename_i l hh h1 h2
      split at h
      · rename_i e1 e2
        cases h
        rw [ble_nat, decide_eq_true_eq] at e1 e2
        have L := optNat_rel hlo.1 hlo.2 h1
        have Hh := optNat_rel hhi.1 hhi.2 h2
        rw [bytesOf_len] at e1 Hh
        have hm0 : mx' = none := hmx.2 rfl
        refine ⟨.string (bs.extract l hh), ?_, by rw [← bytesOf_extract]; exact .str _⟩
        have hb : (Instr.sliceBounds false bs.size bs.size lo' hi' none).run P w = .ok (l, hh, bs.size) w :=
          bounds_ok L (Hh.imp (fun h => ⟨h.1, h.2, rfl⟩) id) (.inl ⟨rfl, rfl⟩) (Nat.le_refl _) (.inl e1) e2 w
        subst hm0
        simp only [Instr.sliceAt, Sem.run_bind, run_uty hu, Result.andThen_ok, Instr.slice, Option.isSome_none, Bool.false_eq_true, if_false, hb, Sem.run_pure]
      · cases h
    · cases h
  · rename_i e hu
    split at h
    · rename_i h1 h2 h3 hs
      cases h
      cases ha
      have L := optNat_rel hlo.1 hlo.2 h1
      have Hh := optNat_rel hhi.1 hhi.2 h2
      have M := optNat_rel hmx.1 hmx.2 h3
      have hb : (Instr.sliceBounds true 0 0 lo' hi' mx').run P w = .ok (0, 0, 0) w :=
        bounds_ok L (hnone Hh) M (Nat.le_refl _) (.inl (Nat.le_refl _)) (Nat.le_refl _) w
      refine ⟨.slice none 0 0, ?_, .nilsl⟩
      simp only [Instr.sliceAt, Sem.run_bind, run_uty hu, Result.andThen_ok, Instr.slice, hb, run_sizeOf hs, Sem.run_pure, if_true, Nat.sub_zero]
    · cases h
  · rename_i e x off len cap es opn hu
    obtain ⟨q, c', hq, rfl, hcc, hex, hop⟩ := rel_sl ha
    split at h
    · rename_i l hh m n h1 h2 h3 hs
      split at h
      · rename_i e1 e2 e3 e4
        rw [ble_nat, decide_eq_true_eq] at e1 e2 e3
        rw [beq_nat, decide_eq_true_eq] at e4
        subst e4
        have L := optNat_rel hlo.1 hlo.2 h1
        have Hh := optNat_rel hhi.1 hhi.2 h2
        have M := optNat_rel hmx.1 hmx.2 h3
        split at h
        · -- open, no third bound
          rename_i _ _
          have hm0 : mx' = none := hmx.2 rfl
          have hm : m = cap := by
            rcases M with ⟨_, e⟩ | ⟨k, e⟩
            · exact e
            · rw [hm0] at e; cases e
          subst hm
          have hb : (Instr.sliceBounds true len c' lo' hi' mx').run P w = .ok (l, hh, c') w :=
            bounds_ok L (hnone Hh) (.inl ⟨hm0, rfl⟩) (Nat.le_refl _) (.inl (by omega)) e3 w
          have hend := hop rfl
          split at h
          · rename_i el
            rw [beq_nat, decide_eq_true_eq] at el
            cases h
            have hlen : hh - l = 0 := by omega
            refine ⟨.slice (some (if c' = l then ⟨q.blk, q.off + off, none⟩ else Addr.add ⟨q.blk, q.off + off, none⟩ (l * n))) 0 (c' - l), ?_, .esl _ _⟩
            simp only [Instr.sliceAt, Sem.run_bind, run_uty hu, Result.andThen_ok, Instr.slice, hb, run_sizeOf hs, Sem.run_pure, hlen, Option.map_some]
            split <;> rfl
          · rename_i el
            rw [beq_nat, decide_eq_false_iff_not] at el
            cases h
            have hne : ¬ c' = l := by omega
            refine ⟨.slice (some ⟨q.blk, q.off + (off + l * n), none⟩) (hh - l) (c' - l), ?_, .slo x (off + l * n) (hh - l) (m - l) n q (c' - l) hq (by omega) ?_⟩
            · simp only [Instr.sliceAt, Sem.run_bind, run_uty hu, Result.andThen_ok, Instr.slice, hb, run_sizeOf hs, Sem.run_pure, hne, if_false, Option.map_some]
              rw [add_none rfl]; simp [Nat.add_assoc]
            · have : (c' - l) * n = c' * n - l * n := Nat.sub_mul _ _ _
              have h2 : l * n ≤ c' * n := Nat.mul_le_mul_right _ (by omega)
              omega
        · rename_i hno
          have hm1 : m ≤ c' := by omega
          have hb : (Instr.sliceBounds true len c' lo' hi' mx').run P w = .ok (l, hh, m) w := by
            refine bounds_ok L (hnone Hh) ?_ hm1 (.inl e2) e3 w
            rcases M with ⟨e, em⟩ | e
            · cases opn with
              | true =>
                cases mx with
                | none => exact absurd rfl (hno rfl)
                | some y => obtain ⟨u, hu1, _⟩ := hmx.1 y rfl; rw [e] at hu1; cases hu1
              | false => exact .inl ⟨e, by rw [em, hex rfl]⟩
            · exact .inr e
          split at h
          · rename_i el
            rw [beq_nat, decide_eq_true_eq] at el
            cases h
            refine ⟨.slice (some ⟨q.blk, q.off + off, none⟩) (hh - l) 0, ?_, .slx x off (hh - l) 0 n q hq⟩
            simp only [Instr.sliceAt, Sem.run_bind, run_uty hu, Result.andThen_ok, Instr.slice, hb, run_sizeOf hs, Sem.run_pure, el, if_true, Nat.sub_self]
          · rename_i el
            rw [beq_nat, decide_eq_false_iff_not] at el
            cases h
            refine ⟨.slice (some ⟨q.blk, q.off + (off + l * n), none⟩) (hh - l) (m - l), ?_, .slx x (off + l * n) (hh - l) (m - l) n q hq⟩
            simp only [Instr.sliceAt, Sem.run_bind, run_uty hu, Result.andThen_ok, Instr.slice, hb, run_sizeOf hs, Sem.run_pure, el, if_false, Option.map_some]
            rw [add_none rfl]; simp [Nat.add_assoc]
      · cases h
    · cases h
  · rename_i n e x off hu
    obtain ⟨q, hq, rfl⟩ := rel_ptr ha
    split at h
    · rename_i l hh m s h1 h2 h3 hs
      split at h
      · rename_i e1 e2 e3
        rw [ble_nat, decide_eq_true_eq] at e1 e2 e3
        have L := optNat_rel hlo.1 hlo.2 h1
        have Hh := optNat_rel hhi.1 hhi.2 h2
        have M := optNat_rel hmx.1 hmx.2 h3
        have hb : (Instr.sliceBounds false n n lo' hi' mx').run P w = .ok (l, hh, m) w :=
          bounds_ok L (hnone Hh) M e1 (.inl e2) e3 w
        split at h
        · rename_i el
          rw [beq_nat, decide_eq_true_eq] at el
          cases h
          refine ⟨.slice (some ⟨q.blk, q.off + off, none⟩) (hh - l) (m - l), ?_, .slx x off (hh - l) (m - l) s q hq⟩
          simp only [Instr.sliceAt, Sem.run_bind, run_uty hu, Result.andThen_ok, sureAddr_ptr, hb, run_sizeOf hs, Sem.run_pure, el, if_true]
        · rename_i el
          rw [beq_nat, decide_eq_false_iff_not] at el
          cases h
          refine ⟨.slice (some ⟨q.blk, q.off + (off + l * s), none⟩) (hh - l) (m - l), ?_, .slx x (off + l * s) (hh - l) (m - l) s q hq⟩
          simp only [Instr.sliceAt, Sem.run_bind, run_uty hu, Result.andThen_ok, sureAddr_ptr, hb, run_sizeOf hs, Sem.run_pure, el, if_false]
          rw [add_none rfl]; simp [Nat.add_assoc]
      · cases h
    · cases h
  · cases h

theorem slice_rel {t : TypeId} {a b : AV} {v : Value} {lo hi mx : Option AV} {lo' hi' mx' : Option Value} (ha : VRel φ a v)
    (hlo : (∀ x, lo = some x → ∃ u, lo' = some u ∧ VRel φ x u) ∧ (lo = none → lo' = none)) (hhi : (∀ x, hi = some x → ∃ u, hi' = some u ∧ VRel φ x u) ∧ (hi = none → hi' = none))
    (hmx : (∀ x, mx = some x → ∃ u, mx' = some u ∧ VRel φ x u) ∧ (mx = none → mx' = none)) (h : xslice P t a lo hi mx = some b) (w : World) :
    ∃ u, (Instr.sliceAt t v lo' hi' mx').run P w = .ok u w ∧ VRel φ b u := by
  unfold xslice at h
  split at h
  · cases h
  · rename_i hno
    refine sliceIn_rel ha hlo hhi hmx (fun e => ?_) h w
    cases mx with
    | none => rfl
    | some y => exact absurd rfl (hno y e)

end
end Go.Sx
