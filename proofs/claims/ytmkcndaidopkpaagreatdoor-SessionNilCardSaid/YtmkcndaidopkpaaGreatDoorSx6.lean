/- The operations, one by one: what the machine tells of an operation is what the model does. -/
import Derived.Test.YtmkcndaidopkpaaGreatDoorSx5
namespace Go.Sx
noncomputable section
variable {P : Program} {φ : Em} {H : Hp} {w : World}

/-- what an operation gives. -/
def Gives (n : Next) (v : Value) : Prop := n = .value v ∨ (n = .skip ∧ v = undef)

/-- what the machine's answer says of the model's run. -/
def OpRes (P : Program) (φ : Em) (H : Hp) (w : World) (x : K) (s : Sem Next) : XR → Prop
  | .val v => ∃ n v' w', s.run P w = .ok n w' ∧ Gives n v' ∧ VRel φ v v' ∧ Same w w'
  | .heap v H' => ∃ φ' n v' w', s.run P w = .ok n w' ∧ Gives n v' ∧ VRel φ' v v' ∧ HRel P φ' H' w' ∧ Ext φ φ' H H' w w'
  | .fresh v o => ∃ ob p n v' w', s.run P w = .ok n w' ∧ Gives n v' ∧ w'.heap = w.heap.push ob ∧ p.blk = w.heap.size ∧ (w'.os = w.os ∧ w'.output = w.output ∧ w'.tape = w.tape) ∧
      (φ x = none → VRel (φ.with x p) v v' ∧ ORel (φ.with x p) p o ob)
  | .call f args => ∃ args', s.run P w = .ok (.enter f args') w ∧ VRels φ args args'.toList
  | .yield y args => ∃ p args', φ y = some p ∧ s.run P w = (Instr.yield p.blk args').run P w ∧ VRels φ args args'.toList

theorem res_val {x : K} {s : Sem Value} {v : AV} {v' : Value} {w' : World} (h : s.run P w = .ok v' w') (hr : VRel φ v v') (hs : Same w w') : OpRes P φ H w x (do pure (.value (← s))) (.val v) :=
  ⟨_, v', w', by simp [h], .inl rfl, hr, hs⟩
theorem okV_some {o : Option AV} {r : XR} (h : okV o = some r) : ∃ v, o = some v ∧ r = .val v := by
  cases o with
  | none => cases h
  | some v => cases h; exact ⟨v, rfl, rfl⟩
theorem okH_some {o : Option Hp} {r : XR} (h : okH o = some r) : ∃ H', o = some H' ∧ r = .heap .undef H' := by
  cases o with
  | none => cases h
  | some v => cases h; exact ⟨v, rfl, rfl⟩

/-! ## inversions -/
theorem rel_bool {b : Bool} {v : Value} (h : VRel φ (.bool b) v) : v = .bool b := by cases h; rfl
theorem rel_int {k : IntKind} {n : Int} {v : Value} (h : VRel φ (.int k n) v) : v = .int k n := by cases h; rfl
theorem rel_str {s : List Nat} {v : Value} (h : VRel φ (.str s) v) : ∃ b, v = .string b ∧ s = bytesOf b := by cases h; exact ⟨_, rfl, rfl⟩
theorem rel_ptr {x : K} {o : Nat} {v : Value} (h : VRel φ (.ptr x o) v) : ∃ p, φ x = some p ∧ v = .pointer (some ⟨p.blk, p.off + o, none⟩) := by cases h; exact ⟨_, ‹_›, rfl⟩
theorem rel_agg {l : List AV} {v : Value} (h : VRel φ (.agg l) v) : ∃ cs, v = .agg cs ∧ VRels φ l cs.toList := by cases h; exact ⟨_, rfl, ‹_›⟩
theorem rel_tup {l : List AV} {v : Value} (h : VRel φ (.tup l) v) : ∃ cs, v = .tuple cs ∧ VRels φ l cs.toList := by cases h; exact ⟨_, rfl, ‹_›⟩
/-- a slice that is not nil, and known. -/
theorem rel_sl {x : K} {o n c s : Nat} {p : Bool} {v : Value} (h : VRel φ (.sl x o n c s p) v) :
    ∃ q c', φ x = some q ∧ v = .slice (some ⟨q.blk, q.off + o, none⟩) n c' ∧ c ≤ c' ∧ (p = false → c' = c) ∧ (p = true → q.off + o + c' * s = q.row) := by
  cases h with
  | slx _ _ _ _ _ q hq => exact ⟨q, c, hq, rfl, Nat.le_refl _, fun _ => rfl, fun e => by cases e⟩
  | slo _ _ _ _ _ q c' hq h1 h2 => exact ⟨q, c', hq, rfl, h1, (fun e => by cases e), fun _ => h2⟩

theorem asIntOf_int (k : IntKind) (n : Int) (w : World) : (asIntOf (.int k n)).run P w = .ok (k, n) w := rfl
theorem asInt_int (k : IntKind) (n : Int) (w : World) : (Go.asInt (.int k n)).run P w = .ok n w := by simp [Go.asInt, asIntOf]
theorem sureAddr_ptr (a : Addr) (w : World) : (Instr.sureAddr (.pointer (some a))).run P w = .ok a w := rfl

/-! ## addresses -/
theorem addOff_rel {n : Nat} {a b : AV} {v : Value} (ha : VRel φ a v) (h : addOff n a = some b) :
    ∃ ad, v = .pointer (some ad) ∧ ad.spot = none ∧ VRel φ b (.pointer (some (ad.add n))) := by
  unfold addOff at h
  split at h
  · rename_i x off e
    have e := asPtr_some e; subst e
    cases h
    obtain ⟨p, hp, rfl⟩ := rel_ptr ha
    refine ⟨_, rfl, rfl, ?_⟩
    rw [add_none rfl, Nat.add_assoc]
    exact .ptr x (off + n) p hp
  · cases h

theorem fieldAddr_rel {s : TypeId} {a b : AV} {v : Value} {f : Nat} (ha : VRel φ a v) (h : xfieldAddr P s a f = some b) (w : World) :
    ∃ u, (Instr.fieldAt s v f).run P w = .ok u w ∧ VRel φ b u := by
  unfold xfieldAddr at h
  split at h
  · rename_i fd hfd
    unfold fieldOf at hfd
    split at hfd
    · rename_i fs hu
      split at h
      · rename_i n hn
        obtain ⟨ad, rfl, hsp, hr⟩ := addOff_rel ha h
        refine ⟨_, ?_, hr⟩
        have hfd' : fs[f]? = some fd := by simpa using hfd
        simp [Instr.fieldAt, run_uty hu, hfd', sureAddr_ptr, fieldPlace, run_sizeOf hn]
      · cases h
    · cases hfd
  · cases h

theorem natOf_rel {a : AV} {n : Nat} {v : Value} (ha : VRel φ a v) (h : natOf a = some n) : ∃ k, v = .int k (n : Int) := by
  obtain ⟨k, rfl⟩ := natOf_some h
  exact ⟨k, rel_int ha⟩

theorem indexAddr_rel {t : TypeId} {a i b : AV} {va vi : Value} (ha : VRel φ a va) (hi : VRel φ i vi) (h : xindexAddr P t a i = some b) (w : World) :
    ∃ u, (Instr.indexAt t va vi).run P w = .ok u w ∧ VRel φ b u := by
  unfold xindexAddr at h
  split at h
  · rename_i n e hu
    split at h
    · rename_i es hs
      unfold idxA at h
      split at h
      · rename_i k hk
        obtain ⟨kk, rfl⟩ := natOf_rel hi hk
        split at h
        · rename_i x off hx
          have hx := asPtr_some hx; subst hx
          split at h
          · rename_i hle
            rw [ble_nat, decide_eq_true_eq] at hle
            cases h
            obtain ⟨p, hp, rfl⟩ := rel_ptr ha
            refine ⟨_, ?_, .ptr x (off + k * es) p hp⟩
            have h1 : (0 : Int) ≤ (k : Int) ∧ (k : Int) < (n : Int) := by omega
            simp [Instr.indexAt, asIntOf_int, run_uty hu, sureAddr_ptr, h1, run_sizeOf hs]
            rw [add_none rfl]
            simp [Nat.add_assoc]
          · cases h
        · cases h
      · cases h
    · cases h
  · rename_i e hu
    split at h
    · rename_i es hs
      unfold idxS at h
      split at h
      · rename_i k hk
        obtain ⟨kk, rfl⟩ := natOf_rel hi hk
        split at h
        · rename_i sl hx
          have hx := asSl_some hx; subst hx
          split at h
          · rename_i hle
            rw [ble_nat, decide_eq_true_eq] at hle
            cases h
            obtain ⟨p, c', hp, rfl, _⟩ := rel_sl ha
            refine ⟨_, ?_, .ptr _ (sl.off + k * es) p hp⟩
            have h1 : (0 : Int) ≤ (k : Int) ∧ (k : Int) < (sl.len : Int) := by omega
            simp [Instr.indexAt, asIntOf_int, run_uty hu, h1, run_sizeOf hs]
            rw [add_none rfl]
            simp [Nat.add_assoc]
          · cases h
        · cases h
      · cases h
    · cases h
  · cases h

/-! ## parts of values -/
theorem part_rel {t : TypeId} {cs : List AV} {vs : Array Value} {off : Nat} {b : AV} (hr : VRels φ cs vs.toList) (h : xpart P t cs off = some b) (w : World) :
    ∃ u, (Go.part t vs off).run P w = .ok u w ∧ VRel φ b u := by
  unfold xpart at h
  split at h
  · rename_i hg
    split at h
    · rename_i n hn
      split at h
      · rename_i q hq
        cases h
        obtain ⟨rfl, hl⟩ := part_some hq
        refine ⟨.agg (vs.extract off (off + n)), by simp [Go.part, run_isAgg hg, run_sizeOf hn], .agg _ _ ?_⟩
        rw [Array.toList_extract]
        simp only [List.extract_eq_take_drop]
        rw [show off + n - off = n from by omega]
        exact (hr.drop off).take n
      · cases h
    · cases h
  · rename_i hg
    rw [nth_eq] at h
    obtain ⟨u, hu, hur⟩ := hr.get h
    exact ⟨u, by
      have : vs[off]? = some u := by simpa using hu
      simp [Go.part, run_isAgg hg, this], hur⟩
  · cases h

theorem field_rel {s : TypeId} {a b : AV} {v : Value} {f : Nat} (ha : VRel φ a v) (h : xfield P s a f = some b) (w : World) :
    ∃ u, (Instr.field s v f).run P w = .ok u w ∧ VRel φ b u := by
  unfold xfield at h
  split at h
  · rename_i fd cs hfd hcs
    have hcs := asAgg_some hcs; subst hcs
    obtain ⟨vs, rfl, hr⟩ := rel_agg ha
    unfold fieldOf at hfd
    split at hfd
    · rename_i fs hu
      obtain ⟨u, hrun, hur⟩ := part_rel hr h w
      have hfd' : fs[f]? = some fd := by simpa using hfd
      exact ⟨u, by simp [Instr.field, run_uty hu, hfd', hrun, Go.asAgg], hur⟩
    · cases hfd
  · cases h

theorem index_rel {t : TypeId} {a i b : AV} {va vi : Value} (ha : VRel φ a va) (hi : VRel φ i vi) (h : xindex P t a i = some b) (w : World) :
    ∃ u, (Instr.index t va vi).run P w = .ok u w ∧ VRel φ b u := by
  unfold xindex at h
  split at h
  · rename_i k hk
    obtain ⟨kk, rfl⟩ := natOf_rel hi hk
    split at h
    · rename_i n e cs hu
      split at h
      · rename_i es hle hs
        rw [ble_nat, decide_eq_true_eq] at hle
        obtain ⟨vs, rfl, hr⟩ := rel_agg ha
        obtain ⟨u, hrun, hur⟩ := part_rel hr h w
        have h1 : (0 : Int) ≤ (k : Int) ∧ (k : Int) < (n : Int) := by omega
        exact ⟨u, by simp [Instr.index, asIntOf_int, run_uty hu, h1, run_sizeOf hs, hrun], hur⟩
      · cases h
    · rename_i s hu
      split at h
      · rename_i c hc
        cases h
        obtain ⟨bs, rfl, rfl⟩ := rel_str ha
        have hb : ∃ x : UInt8, bs.data.toList[k]? = some x ∧ c = x.toNat := by
          simp only [bytesOf, List.getElem?_map, Option.map_eq_some_iff] at hc
          obtain ⟨x, hx, rfl⟩ := hc
          exact ⟨x, hx, rfl⟩
        obtain ⟨x, hx, rfl⟩ := hb
        have hget : bs[k]? = some x := by
          have hlt := (List.getElem?_eq_some_iff.1 hx).1
          have hlt' : k < bs.size := by simpa using hlt
          rw [getElem?_pos bs k hlt']
          rw [List.getElem?_eq_getElem hlt] at hx
          simp at hx
          exact congrArg some hx
        refine ⟨.int .u8 x.toNat, ?_, .int _ _⟩
        simp [Instr.index, asIntOf_int, run_uty hu, hget]
      · cases h
    · cases h
  · cases h

theorem extract_rel {i : Nat} {a b : AV} {v : Value} (ha : VRel φ a v) (h : extractAt i a = some b) (w : World) :
    ∃ u, (Instr.extract v i).run P w = .ok u w ∧ VRel φ b u := by
  unfold extractAt at h
  split at h
  · rename_i l hl
    have hl := asTup_some hl; subst hl
    obtain ⟨vs, rfl, hr⟩ := rel_tup ha
    rw [nth_eq] at h
    obtain ⟨u, hu, hur⟩ := hr.get h
    have : vs[i]? = some u := by simpa using hu
    exact ⟨u, by simp [Instr.extract, this], hur⟩
  · cases h

/-! ## building -/
theorem fold_set : ∀ (q : List Value) (off j : Nat) (cs : Array Value), off + j + q.length ≤ cs.size →
    ((q.zipIdx j).foldl (fun (cs : Array Value) (p : Value × Nat) => cs.setIfInBounds (off + p.2) p.1) cs).toList = cs.toList.take (off + j) ++ q ++ cs.toList.drop (off + j + q.length)
  | [], off, j, cs, h => by simp
  | v :: q, off, j, cs, h => by
    simp only [List.length_cons] at h
    rw [List.zipIdx_cons, List.foldl_cons, fold_set q off (j + 1) _ (by simp; omega)]
    have hlt : off + j < cs.toList.length := by simp; omega
    simp only [Array.toList_setIfInBounds, List.length_cons]
    have e1 : (cs.toList.set (off + j) v).take (off + (j + 1)) = cs.toList.take (off + j) ++ [v] := by
      have hlt' : off + j < (cs.toList.set (off + j) v).length := by simpa using hlt
      rw [show off + (j + 1) = off + j + 1 from by omega, List.take_succ_eq_append_getElem hlt', List.getElem_set_self, List.take_set, List.set_eq_of_length_le (by simp; omega)]
    have e2 : (cs.toList.set (off + j) v).drop (off + (j + 1) + q.length) = cs.toList.drop (off + j + (q.length + 1)) := by
      rw [show off + j + (q.length + 1) = off + (j + 1) + q.length from by omega, List.drop_set_of_lt (by omega)]
    rw [e1, e2]; simp

theorem splice_rel {l q z : List AV} {off : Nat} {vs us : List Value} (h : splice l off q = some z) (hl : VRels φ l vs) (hq : VRels φ q us) :
    VRels φ z (vs.take off ++ us ++ vs.drop (off + us.length)) ∧ off + us.length ≤ vs.length := by
  obtain ⟨rfl, hle⟩ := splice_some _ _ _ _ h
  rw [hq.length, hl.length]
  exact ⟨((hl.take off).append hq).append (hl.drop _), hle⟩

theorem fill_rel {pl : Nat → Option (Nat × Nat)} : ∀ {parts : List (Nat × AV)} {parts' : List (Nat × Value)} {ps : List (Nat × Nat × AV)} {l q : List AV} {cs : Array Value},
    parts.length = parts'.length → (∀ (k : Nat) (i : Nat) (a : AV), parts[k]? = some (i, a) → ∃ v, parts'[k]? = some (i, v) ∧ VRel φ a v) → places pl parts = some ps → fill ps l = some q → VRels φ l cs.toList →
    ∃ cs', Instr.fill pl cs parts' = some cs' ∧ VRels φ q cs'.toList
  | [], [], ps, l, q, cs, _, _, hp, hf, hl => by
    cases hp; cases hf
    exact ⟨cs, rfl, hl⟩
  | [], _ :: _, _, _, _, _, h, _, _, _, _ => by simp at h
  | _ :: _, [], _, _, _, _, h, _, _, _, _ => by simp at h
  | (i, a) :: parts, (i', v) :: parts', ps, l, q, cs, hlen, hg, hp, hf, hl => by
    obtain ⟨v', hv', hr⟩ := hg 0 i a rfl
    simp at hv'
    obtain ⟨rfl, rfl⟩ := hv'
    simp only [places] at hp
    split at hp
    · rename_i off size q' hpl hq'
      cases hp
      simp only [fill] at hf
      split at hf
      · rename_i z h1 h2 hz
        rw [beq_nat, decide_eq_true_eq, len_eq] at h1
        obtain ⟨hcr, _⟩ := cells_rel h2 hr
        obtain ⟨hzr, hzl⟩ := splice_rel hz hl hcr
        have hsize : v.cells.size = size := by have := hcr.length; simp at this; omega
        have hfits : ¬ (off + v.cells.size > cs.size) := by simp at hzl; omega
        have hfold : (v.cells.zipIdx.foldl (fun (cs : Array Value) (x : Value × Nat) => cs.setIfInBounds (off + x.2) x.1) cs).toList = cs.toList.take off ++ v.cells.toList ++ cs.toList.drop (off + v.cells.toList.length) := by
          have := fold_set v.cells.toList off 0 cs (by simpa using hzl)
          rw [Nat.add_zero] at this
          rw [← this]
          rw [← Array.foldl_toList, Array.toList_zipIdx]
        obtain ⟨cs', h5, h6⟩ := fill_rel (pl := pl) (parts := parts) (parts' := parts') (cs := v.cells.zipIdx.foldl (fun (cs : Array Value) (x : Value × Nat) => cs.setIfInBounds (off + x.2) x.1) cs)
          (by simpa using hlen) (fun k j b e => by simpa using hg (k + 1) j b (by simpa using e)) hq' hf (by rw [hfold]; exact hzr)
        refine ⟨cs', ?_, h6⟩
        simp only [Instr.fill, hpl]
        rw [if_neg (by simp [hsize]; omega)]
        exact h5
      · cases hf
    · cases hp

theorem fieldPlaces_run : ∀ {fs : List Field} {l : List (Nat × Nat)}, fieldPlaces P fs = some l → ∀ w : World, (fs.mapM (m := Sem) fun f => do pure (f.offset, ← Go.sizeOf f.type)).run P w = .ok l w
  | [], l, h, w => by cases h; simp
  | f :: r, l, h, w => by
    simp only [fieldPlaces] at h
    split at h
    · rename_i n q hn hq
      cases h
      have ih := fieldPlaces_run hq w
      simp only [List.mapM_cons, Sem.run_bind, run_sizeOf hn, Result.andThen_ok, Sem.run_pure]
      rw [ih]; rfl
    · cases h

theorem build_rel {t : TypeId} {parts : List (Nat × AV)} {parts' : Array (Nat × Value)} {b : AV} (hlen : parts.length = parts'.toList.length)
    (hg : ∀ (k : Nat) (i : Nat) (a : AV), parts[k]? = some (i, a) → ∃ v, parts'.toList[k]? = some (i, v) ∧ VRel φ a v) (h : xbuild P t parts = some b) (w : World) :
    ∃ u, (Instr.build t parts').run P w = .ok u w ∧ VRel φ b u := by
  unfold xbuild at h
  split at h
  · rename_i z pl hz hpl
    split at h
    · rename_i ps hps
      split at h
      · rename_i q hq
        cases h
        obtain ⟨zv, hzr, rfl⟩ := run_zero hz w
        have hzrel : VRels φ (cellsOf (ofConst zv)) zv.cells.toList := by
          have := ofConst_rel φ zv
          cases zv <;> first
            | (rename_i cs; obtain ⟨cs', e, hr⟩ := rel_agg (l := cs.toList.map ofFlat) this; cases e; exact hr)
            | exact .cons _ _ _ _ this .nil
            | (rename_i a; cases a <;> exact .cons _ _ _ _ this .nil)
            | (rename_i a l c; cases a <;> first | exact .cons _ _ _ _ this .nil | (cases l <;> cases c <;> exact .cons _ _ _ _ this .nil))
        obtain ⟨cs', h1, h2⟩ := fill_rel (cs := zv.cells) hlen hg hps hq hzrel
        refine ⟨.agg cs', ?_, .agg _ _ h2⟩
        unfold placeIn at hpl
        split at hpl
        · rename_i fs hu
          split at hpl
          · rename_i l hl
            cases hpl
            have hm := fieldPlaces_run hl w
            have hm' : (fs.mapM (m := Sem) fun f => do pure (f.offset, ← Go.sizeOf f.type)).run P w = .ok l.toArray w := by
              rw [Array.mapM_eq_mapM_toList]
              simp only [Sem.run_map, hm, Result.andThen_ok]
            simp only [Instr.build, Sem.run_bind, hzr, Result.andThen_ok, run_uty hu, hm']
            have : (fun (x : Nat) => l.toArray[x]?) = fun (i : Nat) => l[i]? := by funext i; simp
            rw [this, h1]; rfl
          · cases hpl
        · rename_i n e hu
          split at hpl
          · rename_i s hs
            cases hpl
            simp only [Instr.build, Sem.run_bind, hzr, Result.andThen_ok, run_uty hu, run_sizeOf hs, h1]
            rfl
          · cases hpl
        · cases hpl
      · cases h
    · cases h
  · cases h

end
end Go.Sx
