/- Rows that grow, copies, conversions, rows that are made. -/
import Derived.Test.YtmkcndaidopkpaaGreatDoorSx10
namespace Go.Sx
noncomputable section
variable {P : Program} {φ : Em} {H : Hp} {w : World}

theorem constCells (φ : Em) (zv : Value) : VRels φ (cellsOf (ofConst zv)) zv.cells.toList := by
  have := ofConst_rel φ zv
  cases zv <;> first
    | (rename_i cs; obtain ⟨cs', e, hr⟩ := rel_agg (l := cs.toList.map ofFlat) this; cases e; exact hr)
    | exact .cons _ _ _ _ this .nil
    | (rename_i a; cases a <;> exact .cons _ _ _ _ this .nil)
    | (rename_i a l c; cases a <;> first | exact .cons _ _ _ _ this .nil | (cases l <;> cases c <;> exact .cons _ _ _ _ this .nil))

theorem zeroCells_list (z : Array Value) : ∀ n, (Builtin.zeroCells z n).toList = (List.replicate n z.toList).flatten := by
  intro n
  by_cases hz : z.size = 0
  · have : z = #[] := Array.eq_empty_of_size_eq_zero hz
    subst this
    simp [Builtin.zeroCells]
  · induction n with
    | zero => simp [Builtin.zeroCells]
    | succ n ih =>
      have e : (Builtin.zeroCells z (n + 1)).toList = (Builtin.zeroCells z n).toList ++ z.toList := by
        unfold Builtin.zeroCells
        simp only [Array.toList_map, Array.toList_range, Nat.add_mul, Nat.one_mul]
        rw [List.range_add, List.map_append]
        congr 1
        apply List.ext_getElem (by simp)
        intro k h1 h2
        simp only [List.length_map, List.length_range] at h1
        simp only [List.getElem_map, List.getElem_range]
        have : (n * z.size + k) % z.size = k := by rw [Nat.mul_comm, Nat.mul_add_mod]; exact Nat.mod_eq_of_lt h1
        rw [this]
        simp [h1]
      rw [e, ih, List.replicate_succ', List.flatten_append]; simp
theorem rep_rel {z : List AV} {zs : List Value} (h : VRels φ z zs) : ∀ n, VRels φ (rep n z) (List.replicate n zs).flatten
  | 0 => .nil
  | n + 1 => by rw [List.replicate_succ, List.flatten_cons]; exact h.append (rep_rel h n)

theorem zeros_rel {e : TypeId} {n : Nat} {l : List AV} (h : zeros P e n = some l) :
    ∃ zv s, (∀ w : World, (zeroValue e).run P w = .ok zv w) ∧ sizeOf P e = some s ∧ zv.cells.size = s ∧ VRels φ l (Builtin.zeroCells zv.cells n).toList ∧ (∀ v ∈ zv.cells.toList, flatV v = true) ∧ l = rep n (cellsOf (ofConst zv)) := by
  unfold zeros at h
  split at h
  · rename_i z s hz hs
    split at h
    · rename_i h1 h2
      cases h
      obtain ⟨zv, hr, rfl⟩ := run_zeros hz
      rw [beq_nat, decide_eq_true_eq, len_eq] at h1
      have hc := constCells φ zv
      have hlen := hc.length
      refine ⟨zv, s, hr, hs, by simp at hlen; omega, ?_, (cells_rel (φ := φ) h2 (ofConst_rel φ zv)).2, rfl⟩
      rw [zeroCells_list]
      exact rep_rel hc n
    · cases h
  · cases h

/-- cells that are read. -/
theorem read_part (r : HRel P φ H w) {x : K} {l q : List AV} {s : Bool} {p : Pl} {off n : Nat} (hx : H.get x = some (.cells l s)) (hp : φ x = some p) (hq : part l off n = some q) :
    ∃ cs, (∀ w' : World, w'.heap = w.heap → (loadCells ⟨p.blk, p.off + off, none⟩ n).run P w' = .ok cs w') ∧ VRels φ q cs.toList := by
  have h : loadN n H (.ptr x off) = some (.agg q) := by
    have hc : cellsIn (H.get x) = some (l, s) := by rw [hx]; rfl
    have : asPtr (.ptr x off) = some (x, off) := rfl
    simp only [loadN, this, hc, hq]
  obtain ⟨ad, cs, e, _, hrun, hr⟩ := loadN_rel r (.ptr x off p hp) h
  cases e
  obtain ⟨cs', e, hr⟩ := rel_agg hr
  cases e
  exact ⟨cs, hrun, hr⟩

theorem u8s_rel (φ : Em) : ∀ l : List UInt8, VRels φ (u8s (l.map UInt8.toNat)) (l.map fun b => Value.int .u8 b.toNat)
  | [] => .nil
  | _ :: r => .cons _ _ _ _ (.int _ _) (u8s_rel φ r)
theorem u8s_len : ∀ l : List Nat, (u8s l).length = l.length
  | [] => rfl
  | _ :: r => by simp [u8s, u8s_len r]

/-- what is appended, or copied from: its length and its first cells. -/
theorem src_rel (r : HRel P φ H w) {a : AV} {v : Value} {n : Nat} {l : List AV} (ha : VRel φ a v) (h : srcCells H a = some (n, l)) :
    (Builtin.lenOf v).run P w = .ok n w ∧ ∀ size, l.length = n * size → ∃ cs, (∀ w' : World, w'.heap = w.heap → (Builtin.firstCells size n v).run P w' = .ok cs w') ∧ VRels φ l cs.toList := by
  unfold srcCells at h
  split at h
  · rename_i s
    cases h
    obtain ⟨bs, rfl, rfl⟩ := rel_str ha
    rw [bytesOf_len]
    refine ⟨rfl, fun size _ => ⟨_, fun _ _ => rfl, ?_⟩⟩
    have : (ByteArray.extract bs 0 bs.size) = bs := by
      apply bytesOf_inj
      rw [bytesOf_extract, ← bytesOf_len]; simp
    rw [this]
    have := u8s_rel φ bs.data.toList
    simpa [bytesOf] using this
  · cases h; cases ha
    exact ⟨rfl, fun size _ => ⟨#[], fun _ _ => rfl, .nil⟩⟩
  · cases h; cases ha
    refine ⟨rfl, fun size _ => ⟨#[], fun w' _ => ?_, .nil⟩⟩
    simp [Builtin.firstCells, loadCells, loadCellsFrom]
  · rename_i x off m cap es opn
    split at h
    · rename_i q hq
      cases h
      obtain ⟨p, c', hp, rfl, _⟩ := rel_sl ha
      refine ⟨rfl, fun size hs => ?_⟩
      simp only [readSl] at hq
      split at hq
      · rename_i l' s' hc
        have hc := cellsIn_some hc
        have hl := part_len hq
        rw [← hs.symm.trans hl] at hq
        obtain ⟨cs, h1, h2⟩ := read_part r hc hp hq
        exact ⟨cs, h1, h2⟩
      · cases hq
    · cases h
  · cases h

theorem nextcap_le {need c : Nat} (h : c < need) : Builtin.nextslicecap need c ≤ 2 * need + 768 := by
  have grow : ∀ rounds k, k < need ∨ k ≤ 2 * need + 768 → Builtin.growBy need rounds k ≤ 2 * need + 768 := by
    intro rounds
    induction rounds with
    | zero => intro k hk; simp only [Builtin.growBy]; omega
    | succ m ih =>
      intro k hk
      simp only [Builtin.growBy]
      split
      · omega
      · exact ih _ (.inr (by omega))
  unfold Builtin.nextslicecap
  split
  · omega
  · split
    · omega
    · exact grow 4 c (.inl h)

theorem roomy_some {e : TypeId} {need : Nat} (h : roomy P e need = true) : ∃ i, P.info? e = some i ∧ (2 * need + 768) * i.bytes ≤ 2 ^ 48 ∧ 1 ≤ i.bytes := by
  unfold roomy at h
  split at h
  · rename_i i hi
    rw [Bool.and_eq_true, ble_nat, ble_nat, decide_eq_true_eq, decide_eq_true_eq] at h
    exact ⟨i, hi, h.1, h.2⟩
  · cases h

/-- the append, behind what is appended. -/
def appTail (e : TypeId) (base : Option Addr) (m c es n : Nat) (z : Bool) (app : Sem (Array Value)) (s : Value) (share : Sem Bool) : Sem Value := do
  if m + n ≤ c then
    let new ← app
    if let some a := base then storeCells (a.add (m * es)) new.toList
    pure (.slice base (m + n) c)
  else
    if ((m + n : Nat) : Int) > IntKind.i64.max ∧ (z ∨ (← typeInfo e).bytes = 0) then runtimePanic (.error "growslice: len out of range")
    if Builtin.nextslicecap (m + n) c * (← typeInfo e).bytes > 2 ^ 48 then (if z then runtimePanic (.error "growslice: len out of range") else do
      if !(← share) then mark .noRoom
      unsupported (.resourceLimit "append: a slice or a string whose bytes no memory bears"))
    let newCap ← choose (.appendCap (m + n) c e)
    askRoom (newCap * (← typeInfo e).bytes)
    let old ← Builtin.firstCells es m s
    let new ← app
    let rest := Builtin.zeroCells (← zeroValue e).cells (newCap - (m + n))
    pure (.slice (some (← newRow e (old ++ new ++ rest))) (m + n) newCap)

theorem append_plain {ts : Array TypeId} {ty e xType : TypeId} {sType : TypeId} {args : Array Value} {au : Value} {base : Option Addr} {m c es n : Nat} {ut : TypeDesc} (ht0 : ts[0]? = some sType) (ht1 : ts[1]? = some xType)
    (h0 : args[0]? = some (.slice base m c)) (h1 : args[1]? = some au) (hu : P.underlying sType = some (.slice e)) (hs : sizeOf P e = some es) (hx : P.underlying xType = some ut) (hi : ∀ k, ut ≠ .int k)
    (hn : (Builtin.lenOf au).run P w = .ok n w) :
    (Builtin.append_ ts ty args).run P w = (appTail e base m c es n false (Builtin.firstCells es n au) (.slice base m c) (Builtin.mayShare es m n base au)).run P w := by
  unfold Builtin.append_
  simp only [ht0, h0, h1, ht1, Sem.run_bind, run_uty hu, Result.andThen_ok, run_sizeOf hs, run_uty hx]
  have hz : (match ut with | .int _ => true | _ => false) = false := by
    cases ut <;> first | rfl | exact absurd rfl (hi _)
  cases ut <;> first
    | exact absurd rfl (hi _)
    | (simp only [Sem.run_pure, Result.andThen_ok, Bool.false_eq_true, if_false, hn, Bool.not_false, if_true, false_or, appTail, Sem.run_bind]; rfl)

theorem append_zeros {ts : Array TypeId} {ty e xType : TypeId} {sType : TypeId} {args : Array Value} {k : IntKind} {base : Option Addr} {m c es n : Nat} {i : TypeInfo} (ht0 : ts[0]? = some sType) (ht1 : ts[1]? = some xType)
    (h0 : args[0]? = some (.slice base m c)) (h1 : args[1]? = some (.int .i64 (n : Int))) (hu : P.underlying sType = some (.slice e)) (hs : sizeOf P e = some es) (hx : P.underlying xType = some (.int k))
    (hi : P.info? e = some i) (hn : n ≤ 9223372036854775807) (hb : n * i.bytes ≤ 2 ^ 48) :
    (Builtin.append_ ts ty args).run P w = (appTail e base m c es n true (if n * es = 0 then pure #[] else do pure (Builtin.zeroCells (← zeroValue e).cells n)) (.slice base m c) (Builtin.mayShare es m n base (.int .i64 n))).run P w := by
  have hw : IntKind.i64.wrap (n : Int) = n := maxN_spec .i64 n hn
  have h2 : ¬ ((n : Int) < 0) := by omega
  have h3 : ¬ ((n : Int) * (i.bytes : Int) > 2 ^ 48) := by
    have : ((n * i.bytes : Nat) : Int) ≤ 2 ^ 48 := by exact_mod_cast hb
    push_cast at this
    omega
  unfold Builtin.append_
  simp only [ht0, h0, h1, ht1, Sem.run_bind, run_uty hu, Result.andThen_ok, run_sizeOf hs, run_uty hx, Sem.run_pure, if_true, asInt_int, hw, h2, if_false, run_info hi, h3, Int.toNat_natCast, Bool.not_true, Bool.false_eq_true, true_or, appTail]
  rfl

/-- what a choice of a capacity gives. -/
theorem choose_cap (w : World) (need old : Nat) (e : TypeId) : ∃ c, need ≤ c ∧ (choose (.appendCap need old e)).run P w = .ok c { w with drawn := w.drawn + 1 } := by
  refine ⟨(Question.appendCap need old e).cut (w.tape w.drawn (.appendCap need old e)), ?_, by rw [run_choose]; rfl⟩
  simp only [Question.cut]; omega

theorem same_drawn (w : World) : Same w { w with drawn := w.drawn + 1 } := ⟨rfl, rfl, rfl, rfl⟩

theorem orel_open {ψ : Em} {l : List AV} {vs rest : List Value} {elem : TypeId} (b : Nat) (s : Bool) (h : VRels ψ l vs) : ORel ψ ⟨b, 0, (vs ++ rest).length, none⟩ (.cells l s) (.cells (vs ++ rest).toArray elem) := by
  refine .cells l s _ elem (0, 0) (by simp) (by simp [h.length]) (fun k a hk => ?_) (fun _ => rfl) (.inl rfl)
  obtain ⟨v, hv, hr⟩ := h.get hk
  refine ⟨v, ?_, hr⟩
  have hlt := (List.getElem?_eq_some_iff.1 hv).1
  simp only [Nat.zero_add, List.getElem?_toArray]
  rw [List.getElem?_append_left hlt]; exact hv

/-- a row is made anew: what the model does. -/
theorem tail_new {e : TypeId} {base : Option Addr} {m c es n : Nat} {z : Bool} {app : Sem (Array Value)} {s : Value} {share : Sem Bool} {i : TypeInfo} {zv : Value} {oldc newc : Array Value} (hc : c < m + n) (hi : P.info? e = some i) (hb : (2 * (m + n) + 768) * i.bytes ≤ 2 ^ 48) (hb1 : 1 ≤ i.bytes)
    (hz : ∀ w : World, (zeroValue e).run P w = .ok zv w) (hzs : zv.cells.size = es) (hold : ∀ w', Same w w' → (Builtin.firstCells es m s).run P w' = .ok oldc w') (hnew : ∀ w', Same w w' → app.run P w' = .ok newc w')
    (ho : oldc.size = m * es) (hn : newc.size = n * es) :
    ∃ cap rest w', m + n ≤ cap ∧ (oldc.toList ++ newc.toList ++ rest).length = cap * es ∧ (appTail e base m c es n z app s share).run P w = .ok (.slice (some ⟨w.heap.size, 0, none⟩) (m + n) cap) w' ∧
      w'.heap = w.heap.push (.cells (oldc.toList ++ newc.toList ++ rest).toArray e) ∧ w'.os = w.os ∧ w'.output = w.output ∧ w'.tape = w.tape := by
  obtain ⟨cap, hcap, hch⟩ := choose_cap (P := P) w (m + n) c e
  have hle := nextcap_le hc
  have h1 : ¬ (((m + n : Nat) : Int) > IntKind.i64.max ∧ (z = true ∨ i.bytes = 0)) := by
    rintro ⟨h, _⟩
    have h3 : (2 * (m + n) + 768) * 1 ≤ (2 * (m + n) + 768) * i.bytes := Nat.mul_le_mul_left _ hb1
    have h4 : (2 * (m + n) + 768) * 1 ≤ 2 ^ 48 := Nat.le_trans h3 hb
    have h5 : (2 : Nat) ^ 48 = 281474976710656 := by decide
    have h6 : IntKind.i64.max = 9223372036854775807 := by decide
    rw [h6] at h
    omega
  have h2 : ¬ (Builtin.nextslicecap (m + n) c * i.bytes > 2 ^ 48) := by
    have : Builtin.nextslicecap (m + n) c * i.bytes ≤ (2 * (m + n) + 768) * i.bytes := Nat.mul_le_mul_right _ hle
    omega
  have hs := same_drawn w
  refine ⟨cap, (Builtin.zeroCells zv.cells (cap - (m + n))).toList, { { w with drawn := w.drawn + 1 } with heap := w.heap.push (.cells (oldc.toList ++ newc.toList ++ (Builtin.zeroCells zv.cells (cap - (m + n))).toList).toArray e) }, hcap, ?_, ?_, rfl, rfl, rfl, rfl⟩
  · have hzl : (Builtin.zeroCells zv.cells (cap - (m + n))).toList.length = (cap - (m + n)) * es := by simp [Builtin.zeroCells, hzs]
    simp only [List.length_append, Array.length_toList, ho, hn] at hzl ⊢
    rw [hzl, ← Nat.add_mul, ← Nat.add_mul]
    congr 1; omega
  · have hle' : ¬ (m + n ≤ c) := by omega
    simp only [appTail, hle', if_false, Sem.run_bind, run_info hi, Result.andThen_ok, h1, Sem.run_pure, h2, hch, run_askRoom, hold _ hs, hnew _ hs, hz, run_newRow]
    have : oldc ++ newc ++ Builtin.zeroCells zv.cells (cap - (m + n)) = (oldc.toList ++ newc.toList ++ (Builtin.zeroCells zv.cells (cap - (m + n))).toList).toArray := by
      apply Array.toList_inj.1; simp
    rw [this]

theorem append_rel (r : HRel P φ H w) {sType xType : TypeId} {s a : AV} {su au : Value} {x : XR} (hs : VRel φ s su) (ha : VRel φ a au) (h : xappend P H sType xType s a = some x) {ts : Array TypeId} {args : Array Value} {ty : TypeId}
    (ht0 : ts[0]? = some sType) (ht1 : ts[1]? = some xType) (h0 : args[0]? = some su) (h1 : args[1]? = some au) : OpRes P φ H w H.next (do pure (.value (← Builtin.append_ ts ty args))) x := by
  unfold xappend at h
  split at h
  · rename_i e hu
    split at h
    · rename_i es zl ut hes hzl hut
      obtain ⟨zv, es', hz, hes', hzs, _, _, _⟩ := zeros_rel (φ := φ) hzl
      rw [hes] at hes'; cases hes'
      split at h
      · rename_i n new happ
        split at h
        · rename_i hlen hst
          rw [beq_nat, decide_eq_true_eq, len_eq] at hlen
          -- the run, as its tail
          have key : ∃ (z : Bool) (app : Sem (Array Value)), (∀ (base : Option Addr) (m c : Nat), su = .slice base m c → ∃ share, (Builtin.append_ ts ty args).run P w = (appTail e base m c es n z app su share).run P w) ∧
              (∃ nc, (∀ w', Same w w' → app.run P w' = .ok nc w') ∧ VRels φ new nc.toList) := by
            unfold appended at happ
            split at happ
            · rename_i k nn
              have := rel_int ha; subst this
              split at happ
              · rename_i zz i hzz hi hle
                split at happ
                · rename_i hb
                  cases happ
                  rw [ble_nat, decide_eq_true_eq] at hle hb
                  refine ⟨true, (if n * es = 0 then pure #[] else do pure (Builtin.zeroCells (← zeroValue e).cells n)), fun base m c e' => ?_, Builtin.zeroCells zv.cells n, ?_, ?_⟩
                  · subst e'
                    exact ⟨_, append_zeros ht0 ht1 h0 h1 hu hes hut hi hle hb⟩
                  · intro w' _
                    by_cases h00 : n * es = 0
                    · simp only [h00, if_true, Sem.run_pure]
                      congr 1
                      symm
                      apply Array.eq_empty_of_size_eq_zero
                      simp [Builtin.zeroCells, hzs, h00]
                    · simp only [h00, if_false, Sem.run_bind, hz, Result.andThen_ok, Sem.run_pure]
                  · obtain ⟨zv', _, h1', _, _, hr, _, _⟩ := zeros_rel (φ := φ) hzz
                    have h1' := h1' w
                    rw [hz w] at h1'; cases h1'
                    exact hr
                · cases happ
              · cases happ
            · cases happ
            · rename_i hno hno2
              have hi : ∀ k, ut ≠ .int k := by
                rintro k rfl
                exact hno k rfl
              obtain ⟨hl, hf⟩ := src_rel r ha happ
              obtain ⟨cs, hcs, hcr⟩ := hf es hlen
              refine ⟨false, Builtin.firstCells es n au, fun base m c e' => ?_, cs, fun w' hw' => hcs w' hw'.1, hcr⟩
              subst e'
              exact ⟨_, append_plain ht0 ht1 h0 h1 hu hes hut hi hl⟩
          obtain ⟨z, app, hrun, nc, hnc, hnr⟩ := key
          have hncs : nc.size = n * es := by have := hnr.length; simp at this; omega
          have hfl : ∀ v ∈ nc.toList, flatV v = true := by
            have := cells_rel (φ := φ) (a := .agg new) (v := .agg nc) hst (.agg _ _ hnr)
            exact this.2
          unfold appendTo at h
          split at h
          · -- nil
            cases hs
            obtain ⟨share, hrun⟩ := hrun _ _ _ rfl
            cases n with
            | zero =>
              cases h
              refine ⟨.value (.slice none 0 0), _, w, ?_, .inl rfl, .nilsl, Same.refl w⟩
              simp only [Sem.run_bind, hrun, appTail, Nat.add_zero, Nat.le_refl, if_true, hnc w (Same.refl w), Result.andThen_ok, Sem.run_pure]
            | succ k =>
              simp only at h
              split at h
              · rename_i hroom
                cases h
                obtain ⟨i, hi, hb, hb1⟩ := roomy_some hroom
                obtain ⟨cap, rest, w', hcap, hlen', hr', hw', g1, g2, g3⟩ := tail_new (base := none) (m := 0) (c := 0) (n := k + 1) (es := es) (z := z) (app := app) (s := .slice none 0 0) (share := share) (oldc := #[]) (newc := nc) (w := w) (by omega) hi (by simpa using hb) hb1 hz hzs
                  (fun _ _ => rfl) hnc (by simp) hncs
                refine ⟨_, ⟨w.heap.size, 0, (nc.toList ++ rest).length, none⟩, .value (.slice (some ⟨w.heap.size, 0, none⟩) (k + 1) cap), _, w', ?_, .inl rfl, hw', rfl, ⟨g1, g2, g3⟩, fun hx => ⟨?_, ?_⟩⟩
                · simp only [Sem.run_bind, hrun, hr', Result.andThen_ok, Sem.run_pure, Nat.zero_add]
                · have := VRel.slo (φ := φ.with H.next ⟨w.heap.size, 0, (nc.toList ++ rest).length, none⟩) H.next 0 (k + 1) (k + 1) es _ cap (Em.with_same _ _ _) (by omega) (by simpa using hlen'.symm)
                  simpa using this
                · have := orel_open (ψ := φ.with H.next ⟨w.heap.size, 0, (nc.toList ++ rest).length, none⟩) (rest := rest) (elem := e) w.heap.size false (hnr.mono (Em.le_with φ _ _ hx))
                  simpa using this
              · cases h
          · -- a slice of no elements at a place that is not known
            cases n with
            | zero =>
              cases h
              cases hs with
              | esl ad cap =>
                obtain ⟨share, hrun⟩ := hrun _ _ _ rfl
                have hnc0 : nc.toList = [] := by
                  have : nc.size = 0 := by simpa using hncs
                  rw [Array.eq_empty_of_size_eq_zero this]
                refine ⟨.value (.slice (some ad) 0 cap), _, w, ?_, .inl rfl, .esl _ _, Same.refl w⟩
                simp only [Sem.run_bind, hrun, appTail, Nat.add_zero, Nat.zero_le, if_true, hnc w (Same.refl w), Result.andThen_ok, Sem.run_pure, hnc0, storeCells]
            | succ k => cases h
          · rename_i y off m cap es' opn
            obtain ⟨p, c', hp, rfl, hcc, hex, hop⟩ := rel_sl hs
            obtain ⟨share, hrun⟩ := hrun _ _ _ rfl
            split at h
            · rename_i l st hees hy
              rw [beq_nat, decide_eq_true_eq] at hees
              subst hees
              split at h
              · -- in place
                rename_i hle
                rw [ble_nat, decide_eq_true_eq] at hle
                split at h
                · rename_i q hq
                  cases h
                  obtain ⟨w', g1, g2, g3⟩ := put_cells r hy hp hq hfl hnr
                  have hle' : m + n ≤ c' := by omega
                  refine ⟨φ, .value (.slice (some ⟨p.blk, p.off + off, none⟩) (m + n) c'), _, w', ?_, .inl rfl, ?_, g2, g3⟩
                  · have e1 : Addr.add ⟨p.blk, p.off + off, none⟩ (m * es) = ⟨p.blk, p.off + (off + m * es), none⟩ := by rw [add_none rfl]; simp [Nat.add_assoc]
                    simp only [Sem.run_bind, hrun, appTail, hle', if_true, hnc w (Same.refl w), Result.andThen_ok, Sem.run_pure, e1, g1]
                  · cases opn with
                    | false => rw [hex rfl]; exact .slx _ _ _ _ _ _ hp
                    | true => exact .slo _ _ _ _ _ _ _ hp hcc (hop rfl)
                · cases h
              · rename_i hnle
                rw [ble_nat, decide_eq_false_iff_not] at hnle
                split at h
                · rename_i old hroom hold
                  obtain ⟨i, hi, hb, hb1⟩ := roomy_some hroom
                  obtain ⟨oc, hoc, hor⟩ := read_part r hy hp hold
                  have hocs : oc.size = m * es := by have h1 := hor.length; have h2 := part_len hold; simp at h1; omega
                  have hrow : ∀ w' : World, Same w w' → (Builtin.firstCells es m (.slice (some ⟨p.blk, p.off + off, none⟩) m c')).run P w' = .ok oc w' := fun w' hw' => hoc w' hw'.1
                  split at h
                  · -- no room for sure
                    cases h
                    have hc' : c' = cap := hex rfl
                    obtain ⟨cap', rest, w', hcap, hlen', hr', hw', g1, g2, g3⟩ := tail_new (base := some ⟨p.blk, p.off + off, none⟩) (m := m) (c := c') (n := n) (es := es) (z := z) (app := app) (s := .slice (some ⟨p.blk, p.off + off, none⟩) m c') (share := share) (w := w) (by omega) hi hb hb1 hz hzs hrow hnc hocs hncs
                    refine ⟨_, ⟨w.heap.size, 0, (oc.toList ++ nc.toList ++ rest).length, none⟩, .value (.slice (some ⟨w.heap.size, 0, none⟩) (m + n) cap'), _, w', ?_, .inl rfl, hw', rfl, ⟨g1, g2, g3⟩, fun hx => ⟨?_, ?_⟩⟩
                    · simp only [Sem.run_bind, hrun, hr', Result.andThen_ok, Sem.run_pure]
                    · have := VRel.slo (φ := φ.with H.next ⟨w.heap.size, 0, (oc.toList ++ nc.toList ++ rest).length, none⟩) H.next 0 (m + n) (m + n) es _ cap' (Em.with_same _ _ _) hcap (by simpa using hlen'.symm)
                      simpa using this
                    · exact orel_open (ψ := φ.with H.next ⟨w.heap.size, 0, (oc.toList ++ nc.toList ++ rest).length, none⟩) (rest := rest) (elem := e) w.heap.size false ((hor.append hnr).mono (Em.le_with φ _ _ hx))
                  · -- room or no room
                    cases h
                    have hend := hop rfl
                    by_cases hc : m + n ≤ c'
                    · obtain ⟨c0, elem, fr, hw0, hsz, hl0, hcs, hf0, hfr⟩ := r.cells_at hy hp
                      have hmul : (m + n) * es ≤ c' * es := Nat.mul_le_mul_right _ hc
                      rw [Nat.add_mul] at hmul
                      obtain ⟨w', c1, k1, k2, k3, k4, k5, k6, k7, k8, k9⟩ := storeCells_ok P nc.toList ⟨p.blk, p.off + off + m * es, none⟩ 0 w c0 elem fr rfl hw0 hfl (by simp only [Array.length_toList, hncs]; omega) hfr
                      have hold' := part_len hold
                      have hnl : new.length = n * es := hlen
                      have hor' : ORel (φ.with H.next ⟨p.blk, p.off + off, p.row, none⟩) ⟨p.blk, p.off + off, p.row, none⟩ (.cells (old ++ new) st) (.cells c1 elem fr) := by
                        refine .cells _ _ c1 elem fr (by rw [k3]; exact hsz) (by rw [k3]; simp only [List.length_append, hold', hnl]; omega) (fun k a hk => ?_) hf0 (by rw [k3]; exact hfr)
                        rw [k4]
                        simp only [Nat.add_zero, Array.length_toList, hncs]
                        by_cases hkm : k < m * es
                        · have : ¬ (p.off + off + m * es ≤ p.off + off + k ∧ p.off + off + k < p.off + off + m * es + n * es) := by omega
                          rw [if_neg this]
                          rw [List.getElem?_append_left (by omega), part_get hold hkm] at hk
                          obtain ⟨v, hv, hr⟩ := hcs (off + k) a hk
                          exact ⟨v, by rw [Nat.add_assoc]; exact hv, hr.mono (Em.le_with φ _ _ r.none_next)⟩
                        · have hkn : k < m * es + n * es := by
                            have := (List.getElem?_eq_some_iff.1 hk).1
                            simp only [List.length_append, hold', hnl] at this
                            exact this
                          have : p.off + off + m * es ≤ p.off + off + k ∧ p.off + off + k < p.off + off + m * es + n * es := by omega
                          rw [if_pos this]
                          rw [List.getElem?_append_right (by omega), hold'] at hk
                          obtain ⟨v, hv, hr⟩ := hnr.get hk
                          refine ⟨v, ?_, hr.mono (Em.le_with φ _ _ r.none_next)⟩
                          rw [show p.off + off + k - (p.off + off + m * es) = k - m * es from by omega]; exact hv
                      have hne : ∀ z u q, (H.kill y).get z = some u → φ z = some q → z ≠ y ∧ H.get z = some u := fun z u q hz _ => by
                        by_cases e : z = y
                        · subst e; rw [Hp.get_kill_same] at hz; cases hz
                        · rw [Hp.get_kill_ne _ e] at hz; exact ⟨e, hz⟩
                      have hrel : HRel P (φ.with H.next ⟨p.blk, p.off + off, p.row, none⟩) ((H.kill y).new (.cells (old ++ new) st)) w' :=
                        (r.kill y).add (x := H.next) (p := ⟨p.blk, p.off + off, p.row, none⟩) r.none_next (.inr rfl) k2 hor' (fun z u q hz hq e => by
                          obtain ⟨e1, e2⟩ := hne z u q hz hq
                          exact e1 (r.inj z y u _ q p e2 hy hq hp e)) k5 _ (by rw [K.toNat_succ]; show H.next.toNat + 1 = max H.next.toNat _; omega)
                      refine ⟨_, .value (.slice (some ⟨p.blk, p.off + off, none⟩) (m + n) c'), _, w', ?_, .inl rfl, ?_, hrel, ?_⟩
                      · have e1 : Addr.add ⟨p.blk, p.off + off, none⟩ (m * es) = ⟨p.blk, p.off + off + m * es, none⟩ := by rw [add_none rfl]
                        simp only [Sem.run_bind, hrun, appTail, hc, if_true, hnc w (Same.refl w), Result.andThen_ok, Sem.run_pure, e1, k1]
                      · have := VRel.slo (φ := φ.with H.next ⟨p.blk, p.off + off, p.row, none⟩) H.next 0 (m + n) (m + n) es _ c' (Em.with_same _ _ _) hc (by simpa using hend)
                        simpa using this
                      · refine ⟨Em.le_with φ _ _ r.none_next, by show H.next.toNat ≤ (K.succ H.next).toNat; rw [K.toNat_succ]; omega, by omega, fun b _ hb => k5 b (fun e => hb ⟨y, _, p, hy, hp, e.symm⟩), fun b hb => ?_, fun z q hz => ?_, k7, k8, k9, fun b u hu => ?_⟩
                        · obtain ⟨z, u, q, hz, hq, e⟩ := hb
                          by_cases ez : z = H.next
                          · subst ez
                            rw [Em.with_same] at hq; cases hq
                            exact .inl ⟨y, _, p, hy, hp, e⟩
                          · have : ((H.kill y).new (.cells (old ++ new) st)).get z = (H.kill y).get z := Hp.get_new_ne _ _ ez
                            rw [this] at hz
                            rw [Em.with_ne _ _ ez] at hq
                            exact .inl ⟨z, u, q, (hne z u q hz hq).2, hq, e⟩
                        · by_cases ez : z = H.next
                          · subst ez; exact .inr (Nat.le_refl _)
                          · rw [Em.with_ne _ _ ez] at hz; exact .inl hz
                        · by_cases eb : b = p.blk
                          · subst eb; simp only [elemOf, hw0, k2] at hu ⊢; exact hu
                          · unfold elemOf at *; rw [k5 b eb]; exact hu
                    · obtain ⟨cap', rest, w', hcap, hlen', hr', hw', g1, g2, g3⟩ := tail_new (base := some ⟨p.blk, p.off + off, none⟩) (m := m) (c := c') (n := n) (es := es) (z := z) (app := app) (s := .slice (some ⟨p.blk, p.off + off, none⟩) m c') (share := share) (w := w) (by omega) hi hb hb1 hz hzs hrow hnc hocs hncs
                      have rk := r.kill y
                      have hor' := orel_open (ψ := φ.with H.next ⟨w.heap.size, 0, (oc.toList ++ nc.toList ++ rest).length, none⟩) (rest := rest) (elem := e) w.heap.size st ((hor.append hnr).mono (Em.le_with φ _ _ r.none_next))
                      refine ⟨_, .value (.slice (some ⟨w.heap.size, 0, none⟩) (m + n) cap'), _, w', ?_, .inl rfl, ?_, rk.new hw' rfl hor', (Ext.kill φ H w y).trans (Ext.new rk hw' rfl g1 g2 g3)⟩
                      · simp only [Sem.run_bind, hrun, hr', Result.andThen_ok, Sem.run_pure]
                      · have := VRel.slo (φ := φ.with H.next ⟨w.heap.size, 0, (oc.toList ++ nc.toList ++ rest).length, none⟩) H.next 0 (m + n) (m + n) es _ cap' (Em.with_same _ _ _) hcap (by simpa using hlen'.symm)
                        show VRel (φ.with H.next _) _ _
                        simpa using this
                · cases h
            · cases h
          · cases h
        · cases h
      · cases h
    · cases h
  · cases h

end
end Go.Sx
