/- Loads, stores and new objects: what the model does where the machine knows what comes. -/
import Derived.Test.YtmkcndaidopkpaaGreatDoorSx4
import Derived.Laws.Cells
import Derived.Laws.Entries
import Derived.Laws.Sem
namespace Go.Sx
noncomputable section
variable {P : Program} {φ : Em} {H : Hp} {w : World}

theorem flat_oneCell {v : Value} (h : flatV v = true) : v.oneCell' = true := by cases v <;> first | rfl | cases h
theorem flat_of_storable {a : AV} {v : Value} (h : storable a = true) (r : VRel φ a v) : flatV v = true := by
  cases r <;> first | rfl | assumption | cases h
theorem flat_cells {v : Value} (h : flatV v = true) : v.cells = #[v] := by cases v <;> first | rfl | cases h

theorem add_none {a : Addr} (h : a.spot = none) (n : Nat) : a.add n = ⟨a.block, a.off + n, none⟩ := by
  cases a with
  | mk b o s => cases h; unfold Addr.add; split
                · rename_i h; subst h; rfl
                · rfl

/-! ## types -/
theorem run_uty {t : TypeId} {d : TypeDesc} (h : P.underlying t = some d) (w : World) : (underlying t).run P w = .ok d w := run_underlying h w
theorem run_info {t : TypeId} {i : TypeInfo} (h : P.info? t = some i) (w : World) : (typeInfo t).run P w = .ok i w := by
  simp [typeInfo, h]
theorem run_isAgg {t : TypeId} {b : Bool} (h : isAgg P t = some b) (w : World) : (Go.isAgg t).run P w = .ok b w := by
  unfold isAgg at h
  unfold Go.isAgg
  cases hu : P.underlying t with
  | none => rw [hu] at h; cases h
  | some d =>
    simp only [Sem.run_bind, run_uty hu, Result.andThen_ok]
    rw [hu] at h
    cases d <;> cases h <;> rfl
theorem run_sizeOf {t : TypeId} {n : Nat} (h : sizeOf P t = some n) (w : World) : (Go.sizeOf t).run P w = .ok n w := by
  unfold sizeOf at h
  cases hi : P.info? t with
  | none => rw [hi] at h; cases h
  | some i =>
    rw [hi] at h; cases h
    simp [Go.sizeOf, run_info hi]
theorem run_zeros {t : TypeId} {z : AV} (h : zeroOf P t = some z) : ∃ v, (∀ w : World, (zeroValue t).run P w = .ok v w) ∧ z = ofConst v := by
  unfold zeroOf at h
  cases hi : P.info? t with
  | none => rw [hi] at h; cases h
  | some i =>
    rw [hi] at h
    cases hz : i.zero with
    | none => simp [hz] at h
    | some v =>
      simp [hz] at h
      exact ⟨v, fun w => by simp [zeroValue, run_info hi, hz], h.symm⟩
theorem run_zero {t : TypeId} {z : AV} (h : zeroOf P t = some z) (w : World) : ∃ v, (zeroValue t).run P w = .ok v w ∧ z = ofConst v := by
  obtain ⟨v, h1, h2⟩ := run_zeros h
  exact ⟨v, h1 w, h2⟩

/-! ## loads -/
theorem HRel.cell (r : HRel P φ H w) {x : K} {l : List AV} {s : Bool} {p : Pl} {k : Nat} {a : AV} (hx : H.get x = some (.cells l s)) (hp : φ x = some p) (hk : l[k]? = some a) :
    ∃ v, w.cell? ⟨p.blk, p.off + k, none⟩ = some v ∧ VRel φ a v := by
  obtain ⟨q, ob, hq, hw, hr⟩ := r.obj x _ hx
  rw [hp] at hq; cases hq
  cases hr with
  | cells _ _ c elem fr h1 h2 h3 h4 h5 =>
    obtain ⟨v, hv, hvr⟩ := h3 k a hk
    exact ⟨v, by simp [World.cell?, hw, hv], hvr⟩

theorem load1_rel (r : HRel P φ H w) {a b : AV} {v : Value} (ha : VRel φ a v) (h : load1 H a = some b) :
    ∃ ad u, v = .pointer (some ad) ∧ ad.spot = none ∧ (load ad).run P w = .ok u w ∧ VRel φ b u := by
  unfold load1 at h
  split at h
  · rename_i x off e
    have e := asPtr_some e; subst e
    split at h
    · rename_i l s hc
      have hc := cellsIn_some hc
      rw [nth_eq] at h
      cases ha with
      | ptr x off p hp =>
        obtain ⟨u, hu, hr⟩ := r.cell hc hp h
        exact ⟨_, u, rfl, rfl, by rw [run_load, hu], hr⟩
    · cases h
  · cases h

theorem loadN_rel (r : HRel P φ H w) {n : Nat} {a b : AV} {v : Value} (ha : VRel φ a v) (h : loadN n H a = some b) :
    ∃ ad cs, v = .pointer (some ad) ∧ ad.spot = none ∧ (∀ w' : World, w'.heap = w.heap → (loadCells ad n).run P w' = .ok cs w') ∧ VRel φ b (.agg cs) := by
  unfold loadN at h
  split at h
  · rename_i x off e
    have e := asPtr_some e; subst e
    split at h
    · rename_i l s hc
      have hc := cellsIn_some hc
      split at h
      · rename_i q hq
        cases h
        cases ha with
        | ptr x off p hp =>
          have hlen := part_len hq
          have key : ∀ k, k < n → ∃ v, w.cell? ⟨p.blk, p.off + (off + k), none⟩ = some v ∧ ∀ a, q[k]? = some a → VRel φ a v := fun k hk => by
            have hg := part_get hq hk
            have : k < q.length := by omega
            rw [List.getElem?_eq_getElem this] at hg
            obtain ⟨v, hv, hr⟩ := r.cell hc hp hg.symm
            exact ⟨v, hv, fun a ha => by rw [List.getElem?_eq_getElem this] at ha; cases ha; exact hr⟩
          let f : Nat → Value := fun k => if h : k < n then (key k h).choose else undef
          have hf : ∀ k, k < n → w.cell? (Addr.add ⟨p.blk, p.off + off, none⟩ k) = some (f k) := fun k hk => by
            rw [add_none rfl]
            simp only [f, hk, dite_true, Nat.add_assoc]
            exact (key k hk).choose_spec.1
          refine ⟨_, _, rfl, rfl, fun w' hw' => run_loadCells (w := w') (P := P) _ n f (fun k hk => by rw [← hf k hk]; simp only [World.cell?, hw']), .agg _ _ (VRels.of_get ?_ fun k a hk => ?_)⟩
          · simp [hlen]
          · have hkn : k < n := by
              have := (List.getElem?_eq_some_iff.1 hk).1
              omega
            refine ⟨f k, by simp [hkn], ?_⟩
            simp only [f, hkn, dite_true]
            exact (key k hkn).choose_spec.2 a hk
      · cases h
    · cases h
  · cases h

theorem xload_rel (r : HRel P φ H w) {t : TypeId} {a b : AV} {v : Value} (ha : VRel φ a v) (h : xload P H t a = some b) :
    ∃ ad u, v = .pointer (some ad) ∧ ad.spot = none ∧ (loadVar t ad).run P w = .ok u w ∧ VRel φ b u := by
  unfold xload at h
  split at h
  · rename_i hg
    split at h
    · rename_i n hn
      obtain ⟨ad, cs, rfl, hs, hrun, hr⟩ := loadN_rel r ha h
      exact ⟨ad, _, rfl, hs, by simp [loadVar, run_isAgg hg, run_sizeOf hn, hrun w rfl], hr⟩
    · cases h
  · rename_i hg
    obtain ⟨ad, u, rfl, hs, hrun, hr⟩ := load1_rel r ha h
    exact ⟨ad, u, rfl, hs, by simp only [loadVar, Sem.run_bind, run_isAgg hg, Result.andThen_ok, Bool.false_eq_true, if_false]; exact hrun, hr⟩
  · cases h

/-! ## stores -/
theorem storeCells_ok (P : Program) : ∀ (vs : List Value) (a : Addr) (i : Nat) (w : World) (c : Array Value) (elem : TypeId) (fr : Nat × Nat),
    a.spot = none → w.heap[a.block]? = some (.cells c elem fr) → (∀ v ∈ vs, flatV v = true) → a.off + i + vs.length ≤ c.size → (fr.1 = fr.2 ∨ c.size ≤ fr.1) →
    ∃ w' c', (storeCells a vs i).run P w = .ok () w' ∧ w'.heap[a.block]? = some (.cells c' elem fr) ∧ c'.size = c.size ∧
      (∀ k, c'[k]? = if a.off + i ≤ k ∧ k < a.off + i + vs.length then vs[k - (a.off + i)]? else c[k]?) ∧
      (∀ b, b ≠ a.block → w'.heap[b]? = w.heap[b]?) ∧ w'.heap.size = w.heap.size ∧ w'.os = w.os ∧ w'.output = w.output ∧ w'.tape = w.tape
  | [], a, i, w, c, elem, fr, hs, hw, hv, hl, hf => by
    refine ⟨w, c, by simp [storeCells], hw, rfl, fun k => ?_, fun _ _ => rfl, rfl, rfl, rfl, rfl⟩
    have : ¬ (a.off + i ≤ k ∧ k < a.off + i + ([] : List Value).length) := by simp only [List.length_nil]; omega
    rw [if_neg this]
  | v :: vs, a, i, w, c, elem, fr, hs, hw, hv, hl, hf => by
    simp only [List.length_cons] at hl
    have hlt : a.off + i < c.size := by omega
    have ha : a.add i = ⟨a.block, a.off + i, none⟩ := add_none hs i
    have hcell : w.cell? (a.add i) = some c[a.off + i] := by
      rw [ha]; simp [World.cell?, hw, hlt]
    have hfz : w.frozen? (a.add i) = false := by
      rw [ha]
      obtain ⟨lo, hi⟩ := fr
      simp only [World.frozen?, hw]
      simp only [Bool.and_eq_false_iff, decide_eq_false_iff_not]
      simp only at hf
      omega
    have hset : (w.setCell (a.add i) v).heap[a.block]? = some (.cells (c.setIfInBounds (a.off + i) v) elem fr) := by
      rw [ha]; simp [World.setCell, Array.getElem?_modify, hw]
    have hother : ∀ b, b ≠ a.block → (w.setCell (a.add i) v).heap[b]? = w.heap[b]? := fun b hb => by
      rw [ha]; simp [World.setCell, Array.getElem?_modify, Ne.symm hb]
    have hsz : (w.setCell (a.add i) v).heap.size = w.heap.size := by simp [World.setCell]
    obtain ⟨w', c', h1, h2, h3, h4, h5, h6, h7, h8, h9⟩ := storeCells_ok P vs a (i + 1) (w.setCell (a.add i) v) (c.setIfInBounds (a.off + i) v) elem fr hs hset (fun u hu => hv u (by simp [hu])) (by simp; omega) (by simpa using hf)
    refine ⟨w', c', ?_, h2, by simpa using h3, fun k => ?_, fun b hb => (h5 b hb).trans (hother b hb), h6.trans hsz, h7, h8, h9⟩
    · simp only [storeCells, Sem.run_bind, run_store P w (a.add i) v .plain (flat_oneCell (hv v (by simp))), hcell, hfz, Bool.false_eq_true, if_false, Result.andThen_ok]
      exact h1
    · rw [h4 k]
      simp only [List.length_cons]
      by_cases hk : k = a.off + i
      · subst hk
        have h1 : ¬ (a.off + (i + 1) ≤ a.off + i ∧ a.off + i < a.off + (i + 1) + vs.length) := by omega
        have h2 : a.off + i ≤ a.off + i ∧ a.off + i < a.off + i + (vs.length + 1) := by omega
        rw [if_neg h1, if_pos h2]
        simp [hlt]
      · by_cases h1 : a.off + (i + 1) ≤ k ∧ k < a.off + (i + 1) + vs.length
        · have h2 : a.off + i ≤ k ∧ k < a.off + i + (vs.length + 1) := by omega
          rw [if_pos h1, if_pos h2]
          have : k - (a.off + i) = (k - (a.off + (i + 1))) + 1 := by omega
          rw [this]; simp
        · have h2 : ¬ (a.off + i ≤ k ∧ k < a.off + i + (vs.length + 1)) := by omega
          rw [if_neg h1, if_neg h2, Array.getElem?_setIfInBounds_ne (Ne.symm hk)]

/-- cells written over an object's. -/
theorem put_cells (r : HRel P φ H w) {x : K} {l q z : List AV} {s : Bool} {p : Pl} {off : Nat} {vs : List Value} (hx : H.get x = some (.cells l s)) (hp : φ x = some p)
    (hq : splice l off q = some z) (hs : ∀ v ∈ vs, flatV v = true) (hr : VRels φ q vs) :
    ∃ w', (storeCells ⟨p.blk, p.off + off, none⟩ vs).run P w = .ok () w' ∧ HRel P φ (H.put x (.cells z s)) w' ∧ Ext φ φ H (H.put x (.cells z s)) w w' := by
  obtain ⟨q', ob, hq', hw, hor⟩ := r.obj x _ hx
  rw [hp] at hq'; cases hq'
  cases hor with
  | cells _ _ c elem fr h1 h2 h3 h4 h5 =>
    have hl := (splice_some _ _ _ _ hq).2
    have hlen := hr.length
    obtain ⟨w', c', g1, g2, g3, g4, g5, g6, g7, g8, g9⟩ := storeCells_ok P vs ⟨p.blk, p.off + off, none⟩ 0 w c elem fr rfl hw hs (by simp only; omega) h5
    refine ⟨w', g1, r.put hx hp g2 ?_ g5, Ext.put hx hp g6 g5 g7 g8 g9 (fun e he => by simp only [elemOf, hw, g2] at he ⊢; exact he)⟩
    refine .cells z s c' elem fr (by rw [g3]; exact h1) (by rw [g3, splice_len hq]; exact h2) (fun k a hk => ?_) h4 (by rw [g3]; exact h5)
    rw [splice_get hq] at hk
    rw [g4]
    simp only [Nat.add_zero]
    by_cases hin : off ≤ k ∧ k < off + q.length
    · rw [if_pos hin] at hk
      have : p.off + off ≤ p.off + k ∧ p.off + k < p.off + off + vs.length := by omega
      rw [if_pos this]
      have e : p.off + k - (p.off + off) = k - off := by omega
      rw [e]
      exact hr.get hk
    · rw [if_neg hin] at hk
      have : ¬ (p.off + off ≤ p.off + k ∧ p.off + k < p.off + off + vs.length) := by omega
      rw [if_neg this]
      exact h3 k a hk

theorem cellsOf_agg (l : List AV) : cellsOf (.agg l) = l := rfl
theorem cellsOf_cases (a : AV) : (∃ l, a = .agg l ∧ cellsOf a = l) ∨ ((∀ l, a ≠ .agg l) ∧ cellsOf a = [a]) := by
  cases a <;> first | exact .inl ⟨_, rfl, rfl⟩ | exact .inr ⟨(fun l h => by cases h), rfl⟩

/-- the cells of a value that may be stored. -/
theorem cells_rel {a : AV} {v : Value} (hs : allB storable (cellsOf a) = true) (h : VRel φ a v) :
    VRels φ (cellsOf a) v.cells.toList ∧ ∀ u ∈ v.cells.toList, flatV u = true := by
  have flats : ∀ {l : List AV} {vs : List Value}, VRels φ l vs → allB storable l = true → ∀ u ∈ vs, flatV u = true := by
    intro l vs hr hall u hu
    obtain ⟨k, hk⟩ := List.mem_iff_getElem?.1 hu
    have hlt := (List.getElem?_eq_some_iff.1 hk).1
    have hl : k < l.length := by rw [← hr.length]; exact hlt
    obtain ⟨v', hv', hvr⟩ := hr.get (List.getElem?_eq_getElem hl)
    rw [hk] at hv'; cases hv'
    exact flat_of_storable (allB_true hall _ (List.getElem_mem hl)) hvr
  rcases cellsOf_cases a with ⟨l, rfl, e⟩ | ⟨hne, e⟩
  · cases h with
    | agg l cs h => exact ⟨h, flats h (by rw [e] at hs; exact hs)⟩
  · rw [e] at hs ⊢
    have hst : storable a = true := allB_true hs a (by simp)
    have hfl := flat_of_storable hst h
    rw [flat_cells hfl]
    exact ⟨.cons _ _ _ _ h .nil, fun u hu => by simp at hu; subst hu; exact hfl⟩

theorem storeN_rel (r : HRel P φ H w) {t : TypeId} {n : Nat} {a b : AV} {v u : Value} {H' : Hp} (hn : sizeOf P t = some n) (ha : VRel φ a v) (hb : VRel φ b u) (h : storeN n H a b = some H') :
    ∃ ad w', v = .pointer (some ad) ∧ ad.spot = none ∧ (storeVar t ad u).run P w = .ok () w' ∧ HRel P φ H' w' ∧ Ext φ φ H H' w w' := by
  unfold storeN at h
  split at h
  · rename_i x off e
    have e := asPtr_some e; subst e
    split at h
    · rename_i l s hc
      have hc := cellsIn_some hc
      split at h
      · rename_i hst
        split at h
        · rename_i hlen
          rw [beq_nat, decide_eq_true_eq, len_eq] at hlen
          split at h
          · rename_i z hz
            cases h
            cases ha with
            | ptr x off p hp =>
              obtain ⟨hr, hfl⟩ := cells_rel hst hb
              obtain ⟨w', g1, g2, g3⟩ := put_cells r hc hp hz hfl hr
              refine ⟨_, w', rfl, rfl, ?_, g2, g3⟩
              have hsz : u.cells.size = n := by have := hr.length; simp at this; omega
              simp only [storeVar, Sem.run_bind, run_sizeOf hn, Result.andThen_ok, hsz, ne_eq, not_true_eq_false, if_false]
              exact g1
          · cases h
        · cases h
      · cases h
    · cases h
  · cases h

/-! ## new objects -/
theorem run_newRow (elem : TypeId) (c : Array Value) (w : World) : (newRow elem c).run P w = .ok ⟨w.heap.size, 0, none⟩ { w with heap := w.heap.push (.cells c elem) } := by
  simp [newRow]

theorem new_frame (w : World) (o : Obj) (b : Nat) (hb : b ≠ w.heap.size) : (w.heap.push o)[b]? = w.heap[b]? := by
  by_cases h : b < w.heap.size
  · rw [Array.getElem?_push_lt h, Array.getElem?_eq_getElem h]
  · rw [Array.getElem?_eq_none (by simp; omega), Array.getElem?_eq_none (by omega)]
theorem new_same (w : World) (o : Obj) : (w.heap.push o)[w.heap.size]? = some o := by simp

theorem HRel.live_lt (r : HRel P φ H w) {y : K} {u : AObj} {q : Pl} (hy : H.get y = some u) (hq : φ y = some q) : q.blk < w.heap.size := by
  obtain ⟨p, ob, hp, hw, _⟩ := r.obj y u hy
  rw [hq] at hp; cases hp
  exact (Array.getElem?_eq_some_iff.1 hw).1

/-- a new object of the model's for a name that had no place. -/
theorem HRel.fresh (r : HRel P φ H w) {w' : World} {x : K} {o : AObj} {p : Pl} {ob : Obj} (hx : φ x = none) (hlt : x.toNat < H.next.toNat ∨ x = H.next) (hw : w'.heap = w.heap.push ob) (hp : p.blk = w.heap.size)
    (hr : ORel (φ.with x p) p o ob) (N : K) (hN : N.toNat = max H.next.toNat (x.toNat + 1)) : HRel P (φ.with x p) ⟨Tr.set x (some o) H.objs, N⟩ w' :=
  r.add hx hlt (by rw [hw, hp]; exact new_same w ob) hr (fun y u q hy hq e => by have := r.live_lt hy hq; omega) (fun b hb => by rw [hw]; exact new_frame w ob b (by omega)) N hN

theorem HRel.new (r : HRel P φ H w) {w' : World} {o : AObj} {p : Pl} {ob : Obj} (hw : w'.heap = w.heap.push ob) (hp : p.blk = w.heap.size) (hr : ORel (φ.with H.next p) p o ob) :
    HRel P (φ.with H.next p) (H.new o) w' :=
  r.fresh r.none_next (.inr rfl) hw hp hr _ (by rw [K.toNat_succ]; omega)
theorem Ext.new (r : HRel P φ H w) {w' : World} {o : AObj} {p : Pl} {ob : Obj} (hw : w'.heap = w.heap.push ob) (hp : p.blk = w.heap.size) (h1 : w'.os = w.os) (h2 : w'.output = w.output) (h3 : w'.tape = w.tape) :
    Ext φ (φ.with H.next p) H (H.new o) w w' :=
  Ext.add r.none_next r.get_next (Nat.le_refl _) (by omega) (by rw [hw]; simp) (fun b hb => by rw [hw]; exact new_frame w ob b (by omega)) h1 h2 h3 _ (by rw [K.toNat_succ]; omega)

theorem orel_cells (ψ : Em) (l : List AV) (vs : List Value) (elem : TypeId) (b : Nat) (h : VRels ψ l vs) : ORel ψ ⟨b, 0, vs.length, none⟩ (.cells l false) (.cells vs.toArray elem) := by
  refine .cells l false _ elem (0, 0) (by simp) (by simp [h.length]) (fun k a hk => ?_) (fun _ => rfl) (.inl rfl)
  obtain ⟨v, hv, hr⟩ := h.get hk
  exact ⟨v, by simpa using hv, hr⟩

end
end Go.Sx
