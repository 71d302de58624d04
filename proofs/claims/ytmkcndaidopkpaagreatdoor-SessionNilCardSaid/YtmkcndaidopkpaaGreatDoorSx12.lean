/- Copies, conversions, rows that are made, assertions, calls. -/
import Derived.Test.YtmkcndaidopkpaaGreatDoorSx11
import Derived.Laws.BytesString
namespace Go.Sx
noncomputable section
variable {P : Program} {φ : Em} {H : Hp} {w : World}

theorem takeN_rel {n : Nat} {l q : List AV} {cs : Array Value} (h : takeN n l = some q) (hr : VRels φ l cs.toList) : VRels φ q (cs.toList.take n) := by
  obtain ⟨rfl, _⟩ := takeN_some _ _ _ h
  exact hr.take n

theorem firstCells_take (r : HRel P φ H w) {a : AV} {v : Value} {n size k : Nat} {l q : List AV} (ha : VRel φ a v) (h : srcCells H a = some (n, l)) (hl : l.length = n * size) (hk : k ≤ n) (hq : takeN (k * size) l = some q) :
    ∃ cs, (Builtin.firstCells size k v).run P w = .ok cs w ∧ VRels φ q cs.toList := by
  unfold srcCells at h
  split at h
  · rename_i s
    cases h
    obtain ⟨bs, rfl, rfl⟩ := rel_str ha
    rw [bytesOf_len] at hk hl
    rw [u8s_len, bytesOf_len] at hl
    refine ⟨_, rfl, ?_⟩
    have hu := u8s_rel φ bs.data.toList
    obtain ⟨rfl, _⟩ := takeN_some _ _ _ hq
    have e1 : (((bs.extract 0 k).data.map fun b => Value.int .u8 b.toNat).toList) = (bs.data.toList.map fun b => Value.int .u8 b.toNat).take k := by
      simp [ByteArray.data_extract]
    rw [e1]
    by_cases h0 : bs.size = 0
    · have : bs.data.toList = [] := by
        have h1 : bs.data.size = 0 := h0
        have := Array.eq_empty_of_size_eq_zero h1
        rw [this]
      simp [bytesOf, this, u8s]; exact .nil
    · have : size = 1 := by
        have h1 : bs.size * size = bs.size * 1 := by omega
        exact Nat.eq_of_mul_eq_mul_left (by omega) h1
      subst this
      rw [Nat.mul_one]
      exact hu.take k
  · cases h; cases ha
    have hk0 : k = 0 := by omega
    subst hk0
    rw [Nat.zero_mul] at hq
    cases hq
    exact ⟨#[], rfl, .nil⟩
  · cases h; cases ha
    have hk0 : k = 0 := by omega
    subst hk0
    rw [Nat.zero_mul] at hq
    cases hq
    exact ⟨#[], by simp [Builtin.firstCells, loadCells, loadCellsFrom], .nil⟩
  · rename_i x off m cap es opn
    split at h
    · rename_i q' hq'
      cases h
      obtain ⟨p, c', hp, rfl, _⟩ := rel_sl ha
      simp only [readSl] at hq'
      split at hq'
      · rename_i l' s' hc
        have hc := cellsIn_some hc
        have hl2 := part_len hq'
        obtain ⟨rfl, hle⟩ := part_some hq'
        obtain ⟨rfl, hle2⟩ := takeN_some _ _ _ hq
        have hkl : k * size ≤ n * es := by
          have h1 : k * size ≤ n * size := Nat.mul_le_mul_right _ hk
          omega
        have hpart : part l' off (k * size) = some ((l'.drop off).take (k * size)) := by
          have hd : dropN off l' = some (l'.drop off) := by
            have : ∀ (o : Nat) (l : List AV), o ≤ l.length → dropN o l = some (l.drop o) := by
              intro o
              induction o with
              | zero => intro l _; rfl
              | succ o ih => intro l hl; cases l with
                | nil => simp at hl
                | cons a l => exact ih l (by simpa using hl)
            exact this off l' (by omega)
          have ht : takeN (k * size) (l'.drop off) = some ((l'.drop off).take (k * size)) := by
            have : ∀ (o : Nat) (l : List AV), o ≤ l.length → takeN o l = some (l.take o) := by
              intro o
              induction o with
              | zero => intro l _; rfl
              | succ o ih => intro l hl; cases l with
                | nil => simp at hl
                | cons a l =>
                  have := ih l (by simpa using hl)
                  show consO a (takeN o l) = _
                  rw [this]; rfl
            exact this _ _ (by simp; omega)
          show @Option.rec (List AV) (fun _ => Option (List AV)) none (takeN (k * size)) (dropN off l') = _
          rw [hd]; exact ht
        obtain ⟨cs, h1, h2⟩ := read_part r hc hp hpart
        refine ⟨cs, h1 w rfl, ?_⟩
        rw [List.take_take, Nat.min_eq_left (by omega)]
        exact h2
      · cases hq'
    · cases h
  · cases h

theorem allB_of {p : AV → Bool} : ∀ {l : List AV}, (∀ x ∈ l, p x = true) → allB p l = true
  | [], _ => rfl
  | a :: l, h => by
    show @Bool.rec (fun _ => Bool) false (allB p l) (p a) = true
    rw [h a (by simp)]; exact allB_of (fun x hx => h x (by simp [hx]))

theorem copy_rel (r : HRel P φ H w) {t : TypeId} {d s : AV} {du su : Value} {x : XR} (hd : VRel φ d du) (hs : VRel φ s su) (h : xcopy P H t d s = some x) {ts : Array TypeId} {args : Array Value} {ty : TypeId}
    (ht : ts[0]? = some t) (h0 : args[0]? = some du) (h1 : args[1]? = some su) : OpRes P φ H w H.next (do pure (.value (← Builtin.copy_ ts ty args))) x := by
  unfold xcopy at h
  split at h
  · rename_i e hu
    split at h
    · rename_i es n new hes hsrc
      obtain ⟨hlen, _⟩ := src_rel r hs hsrc
      split at h
      · rename_i hlen' hst
        rw [beq_nat, decide_eq_true_eq, len_eq] at hlen'
        have none0 : ∃ cs, (Builtin.firstCells es 0 su).run P w = .ok cs w ∧ cs.toList = [] := by
          obtain ⟨cs, h1, h2⟩ := firstCells_take (k := 0) (q := []) r hs hsrc hlen' (Nat.zero_le _) (by rw [Nat.zero_mul]; rfl)
          have := h2.length
          exact ⟨cs, h1, List.eq_nil_of_length_eq_zero this⟩
        obtain ⟨cs0, hcs0, hnil⟩ := none0
        have hmin0 : Nat.min n 0 = 0 := Nat.min_zero n
        unfold copyTo at h
        split at h
        · cases h; cases hd
          refine ⟨_, goInt 0, w, ?_, .inl rfl, .int _ _, Same.refl w⟩
          simp only [Builtin.copy_, ht, h0, h1, Sem.run_bind, run_uty hu, Result.andThen_ok, hlen, run_sizeOf hes, hmin0, hcs0, Sem.run_pure]
          rfl
        · cases h
          cases hd with
          | esl ad cap =>
            refine ⟨_, goInt 0, w, ?_, .inl rfl, .int _ _, Same.refl w⟩
            simp only [Builtin.copy_, ht, h0, h1, Sem.run_bind, run_uty hu, Result.andThen_ok, hlen, run_sizeOf hes, hmin0, hcs0, Sem.run_pure, hnil, storeCells]
            rfl
        · rename_i y off m cap es' opn
          obtain ⟨p, c', hp, rfl, _⟩ := rel_sl hd
          split at h
          · rename_i l st q hees hy hq
            rw [beq_nat, decide_eq_true_eq] at hees
            subst hees
            split at h
            · rename_i l' hl'
              cases h
              have hmin : Nat.min n m ≤ n := Nat.min_le_left _ _
              obtain ⟨cs, hcs, hcr⟩ := firstCells_take r hs hsrc hlen' hmin hq
              have hfl : ∀ v ∈ cs.toList, flatV v = true := by
                have hsub : allB storable q = true := by
                  obtain ⟨rfl, _⟩ := takeN_some _ _ _ hq
                  exact allB_of (fun x hx => allB_true hst x (List.mem_of_mem_take hx))
                exact (cells_rel (φ := φ) (a := .agg q) (v := .agg cs) hsub (.agg _ _ hcr)).2
              obtain ⟨w', g1, g2, g3⟩ := put_cells r hy hp hl' hfl hcr
              refine ⟨φ, .value (goInt (Nat.min n m)), _, w', ?_, .inl rfl, .int _ _, g2, g3⟩
              simp only [Builtin.copy_, ht, h0, h1, Sem.run_bind, run_uty hu, Result.andThen_ok, hlen, run_sizeOf hes, hcs, g1, Sem.run_pure]
            · cases h
          · cases h
        · cases h
      · cases h
    · cases h
  · cases h

theorem clear_rel (r : HRel P φ H w) {t : TypeId} {d : AV} {du : Value} {x : XR} (hd : VRel φ d du) (h : xclear P H t d = some x) {ts : Array TypeId} {args : Array Value} {ty : TypeId}
    (ht : ts[0]? = some t) (h0 : args[0]? = some du) : OpRes P φ H w H.next (do pure (.value (← Builtin.clear_ ts ty args))) x := by
  unfold xclear at h
  split at h
  · rename_i e hu
    cases h; cases hd
    refine ⟨_, .tuple #[], w, ?_, .inl rfl, .tup _ _ .nil, Same.refl w⟩
    simp only [Builtin.clear_, ht, h0, Sem.run_bind, run_uty hu, Result.andThen_ok, Sem.run_pure]
  · rename_i e hu
    cases h; cases hd
    refine ⟨_, .tuple #[], w, ?_, .inl rfl, .tup _ _ .nil, Same.refl w⟩
    simp only [Builtin.clear_, ht, h0, Sem.run_bind, run_uty hu, Result.andThen_ok, Sem.run_pure]
  · rename_i e y off n cap es opn hu
    obtain ⟨p, c', hp, rfl, _⟩ := rel_sl hd
    split at h
    · rename_i z es' l st hz hes hy
      split at h
      · rename_i q hees hq
        cases h
        obtain ⟨zv, s, hzr, _, _, hzl, hfl, _⟩ := zeros_rel (φ := φ) hz
        have hfl' : ∀ v ∈ (Builtin.zeroCells zv.cells n).toList, flatV v = true := by
          intro v hv
          rw [zeroCells_list] at hv
          obtain ⟨l0, hl0, hv0⟩ := List.mem_flatten.1 hv
          rw [List.eq_of_mem_replicate hl0] at hv0
          exact hfl v hv0
        obtain ⟨w', g1, g2, g3⟩ := put_cells r hy hp hq hfl' hzl
        cases n with
        | zero =>
          -- nothing is stored
          have hnil : (Builtin.zeroCells zv.cells 0).toList = [] := by rw [zeroCells_list]; rfl
          rw [hnil] at g1
          simp only [storeCells, Sem.run_pure, Result.ok.injEq, true_and] at g1
          subst g1
          refine ⟨φ, _, .tuple #[], w, ?_, .inl rfl, .tup _ _ .nil, g2, g3⟩
          simp only [Builtin.clear_, ht, h0, Sem.run_bind, run_uty hu, Result.andThen_ok, Sem.run_pure]
        | succ n =>
          refine ⟨φ, _, .tuple #[], w', ?_, .inl rfl, .tup _ _ .nil, g2, g3⟩
          simp only [Builtin.clear_, ht, h0, Sem.run_bind, run_uty hu, Result.andThen_ok, hzr, g1, Sem.run_pure]
      · cases h
    · cases h
  · cases h

/-! ## conversions -/
theorem bytesIn_rel : ∀ {l : List AV} {s : List Nat} {vs : List Value}, bytesIn l = some s → VRels φ l vs → ∃ bs : List UInt8, vs = bs.map (fun b => Value.int .u8 b.toNat) ∧ s = bs.map UInt8.toNat
  | [], s, _, h, .nil => by cases h; exact ⟨[], rfl, rfl⟩
  | a :: l, s, _, h, .cons _ v _ vs ha hl => by
    simp only [bytesIn] at h
    split at h
    · rename_i b q hb hq
      cases h
      obtain ⟨bs, rfl, rfl⟩ := bytesIn_rel hq hl
      unfold bytesIn.natOf8 at hb
      split at hb
      · rename_i n
        split at hb
        · rename_i hle
          cases hb
          rw [ble_nat, decide_eq_true_eq] at hle
          have := rel_int ha; subst this
          refine ⟨UInt8.ofNat b :: bs, ?_, ?_⟩
          · simp [UInt8.toNat_ofNat', Nat.mod_eq_of_lt (show b < 2 ^ 8 by omega)]
          · simp [UInt8.toNat_ofNat', Nat.mod_eq_of_lt (show b < 2 ^ 8 by omega)]
        · cases hb
      · cases hb
    · cases h

theorem fold_push : ∀ (bs : List UInt8) (acc : ByteArray), ((bs.map fun b => (b.toNat : Int)).foldl (fun r n => r.push (UInt8.ofNat n.toNat)) acc).data.toList = acc.data.toList ++ bs
  | [], acc => by simp
  | b :: bs, acc => by
    simp only [List.map_cons, List.foldl_cons, Int.toNat_natCast, UInt8.ofNat_toNat]
    rw [fold_push bs (acc.push b)]
    simp [ByteArray.push]

theorem freeze_last (w : World) (c : Array Value) (e : TypeId) : ({ w with heap := w.heap.push (.cells c e) } : World).freeze ⟨w.heap.size, c.size, none⟩ 1 = { w with heap := w.heap.push (.cells c e (c.size, c.size + 1)) } := by
  simp only [World.freeze, Nat.one_ne_zero, if_false]
  congr 1
  apply Array.ext_getElem?
  intro i
  rw [Array.getElem?_modify]
  by_cases h : w.heap.size = i
  · subst h; simp
  · simp only [h, if_false]
    rw [new_frame w _ i (Ne.symm h), new_frame w _ i (Ne.symm h)]

theorem readSl_rel (r : HRel P φ H w) {a : AV} {v : Value} {l : List AV} (ha : VRel φ a v) (h : readSl H a = some l) :
    (v = .slice none 0 0 ∧ l = []) ∨ ∃ ad n c cs, v = .slice (some ad) n c ∧ (l.length = n → (loadCells ad n).run P w = .ok cs w ∧ VRels φ l cs.toList) := by
  unfold readSl at h
  split at h
  · cases h; cases ha; exact .inl ⟨rfl, rfl⟩
  · cases h; cases ha
    exact .inr ⟨_, 0, _, #[], rfl, fun _ => ⟨by simp [loadCells, loadCellsFrom], .nil⟩⟩
  · rename_i x off n cap es opn
    obtain ⟨p, c', hp, rfl, _⟩ := rel_sl ha
    split at h
    · rename_i l' s hc
      have hc := cellsIn_some hc
      have hl := part_len h
      obtain ⟨cs, h1, h2⟩ := read_part r hc hp h
      refine .inr ⟨_, n, c', cs, rfl, fun e => ?_⟩
      rw [← e, hl]
      exact ⟨h1 w rfl, h2⟩
    · cases h
  · cases h

theorem convert_rel (r : HRel P φ H w) {src dst : TypeId} {a : AV} {v : Value} {x : XR} (ha : VRel φ a v) (h : xconvert P H src dst a = some x) :
    OpRes P φ H w H.next (do pure (.value (← convert src dst v))) x := by
  unfold xconvert at h
  split at h
  · rename_i d k k' n hs hd
    cases h
    have := rel_int ha; subst this
    refine res_val (w' := w) (v' := .int k (k.wrap n)) ?_ (by rw [wrap_eq]; exact .int _ _) (Same.refl w)
    simp only [convert, Sem.run_bind, run_uty hs, run_uty hd, Result.andThen_ok]; rfl
  · rename_i d k s lo hi m r hs hd
    split at h
    · rename_i b hb
      cases h
      obtain ⟨x, ⟨s', e⟩, h1⟩ := convR_rel ha hb
      subst e
      refine res_val (w' := w) (v' := .int k (k.wrap (.ofNat x))) ?_ h1 (Same.refl w)
      simp only [convert, Sem.run_bind, run_uty hs, run_uty hd, Result.andThen_ok]; rfl
    · cases h
  · rename_i d k k' n hs hd
    cases h
    have := rel_int ha; subst this
    refine res_val (w' := w) (v' := .float k (k.nearest n)) ?_ (.float _ _) (Same.refl w)
    simp only [convert, Sem.run_bind, run_uty hs, run_uty hd, Result.andThen_ok]; rfl
  · rename_i d k s p q hs hd
    split at h
    · rename_i hk _
      subst hk
      cases h; cases ha
      refine res_val (w' := w) (v' := .complex k p q) ?_ (.complex _ _ _) (Same.refl w)
      simp only [convert, Sem.run_bind, run_uty hs, run_uty hd, Result.andThen_ok]
      simp [Conv.complexToComplex, Conv.floatToFloat]
    · cases h
  · rename_i d s hs hd
    cases h
    obtain ⟨bs, rfl, rfl⟩ := rel_str ha
    refine res_val (w' := w) (v' := .string bs) ?_ (.str _) (Same.refl w)
    simp only [convert, Sem.run_bind, run_uty hs, run_uty hd, Result.andThen_ok]; rfl
  · rename_i d e s hs hd
    obtain ⟨bs, rfl, rfl⟩ := rel_str ha
    split at h
    · rename_i he
      cases h
      obtain ⟨cap, hcap, hch⟩ := choose_cap (P := P) w bs.size 0 e
      have hlen : (bytesOf bs).length = bs.size := bytesOf_len bs
      generalize hrow : (bs.data.map fun b => Value.int .u8 (b.toNat : Int)) ++ Array.replicate (cap - bs.size) (.int .u8 0) = row
      have hrl : row.toList = (bs.data.toList.map fun b => Value.int .u8 (b.toNat : Int)) ++ List.replicate (cap - bs.size) (.int .u8 0) := by rw [← hrow]; simp
      have hsz : row.size = cap := by
        have : row.toList.length = cap := by rw [hrl]; simp; have : bs.data.size = bs.size := rfl; omega
        simpa using this
      refine ⟨.cells row e (row.size, row.size + 1), ⟨w.heap.size, 0, row.size, none⟩, .value (.slice (some ⟨w.heap.size, 0, none⟩) bs.size cap), _, { { w with drawn := w.drawn + 1 } with heap := w.heap.push (.cells row e (row.size, row.size + 1)) }, ?_, .inl rfl, rfl, rfl, ⟨rfl, rfl, rfl⟩, fun hx => ⟨?_, ?_⟩⟩
      · have hmark : (markStringish ⟨w.heap.size, 0, none⟩).run P { { w with drawn := w.drawn + 1 } with heap := w.heap.push (.cells row e) } = .ok () { { w with drawn := w.drawn + 1 } with heap := w.heap.push (.cells row e (row.size, row.size + 1)) } := by
          have hsh : ({ { w with drawn := w.drawn + 1 } with heap := w.heap.push (.cells row e) } : World).shape? w.heap.size = some (e, row.size) := by simp [World.shape?]
          simp only [markStringish, Sem.run_bind, run_shape, hsh, Result.andThen_ok, run_freeze]
          exact congrArg (Result.ok ()) (freeze_last { w with drawn := w.drawn + 1 } row e)
        simp only [convert, Sem.run_bind, run_uty hs, run_uty hd, run_uty he, Result.andThen_ok, Conv.stringToBytes, hch, hrow, run_newRow, hmark, Sem.run_pure]
      · rw [hlen]
        have := VRel.slo (φ := φ.with H.next ⟨w.heap.size, 0, row.size, none⟩) H.next 0 bs.size bs.size 1 _ cap (Em.with_same _ _ _) hcap (by simp [hsz])
        simpa using this
      · refine .cells _ true row e _ rfl (by simp only [u8s_len, hlen]; omega) (fun k a hk => ?_) (fun h => by cases h) (.inr (Nat.le_refl _))
        obtain ⟨v, hv, hr⟩ := (u8s_rel (φ.with H.next ⟨w.heap.size, 0, row.size, none⟩) bs.data.toList).get hk
        refine ⟨v, ?_, hr⟩
        rw [Nat.zero_add, ← Array.getElem?_toList, hrl, List.getElem?_append_left (List.getElem?_eq_some_iff.1 hv).1]
        exact hv
    · cases h
  · rename_i d e y off n cap es opn hs hd
    obtain ⟨p, c', hp, rfl, hcc, hex, hop⟩ := rel_sl ha
    split at h
    · rename_i l st hsd he hy
      cases h
      rw [beq_nat, decide_eq_true_eq] at hsd
      subst hsd
      rw [hs] at hd
      cases hd
      obtain ⟨c, elem, fr, hw, hsz, hl, hcs, hf, hfr⟩ := r.cells_at hy hp
      have hsh : w.shape? p.blk = some (elem, c.size) := by simp [World.shape?, hw]
      have hb : ∃ fr', (w.freeze ⟨p.blk, c.size, none⟩ 1).heap[p.blk]? = some (.cells c elem fr') ∧ (fr'.1 = fr'.2 ∨ c.size ≤ fr'.1) := by
        obtain ⟨lo, hi⟩ := fr
        simp only [World.freeze, Nat.one_ne_zero, if_false, Array.getElem?_modify, if_true, hw, Option.map_some]
        refine ⟨_, rfl, ?_⟩
        simp only at hfr
        by_cases e : lo = hi
        · subst e; simp
        · have : c.size ≤ lo := hfr.resolve_left e
          simp [e]; omega
      obtain ⟨fr', hw', hfr'⟩ := hb
      have hother : ∀ b, b ≠ p.blk → (w.freeze ⟨p.blk, c.size, none⟩ 1).heap[b]? = w.heap[b]? := fun b hb => by
        simp [World.freeze, Array.getElem?_modify, Ne.symm hb]
      refine ⟨φ, .value (.slice (some ⟨p.blk, p.off + off, none⟩) n c'), _, w.freeze ⟨p.blk, c.size, none⟩ 1, ?_, .inl rfl, ?_, ?_, ?_⟩
      · simp only [convert, Sem.run_bind, run_uty hs, Result.andThen_ok, run_uty he, beq_self_eq_true, markStringish, run_shape, hsh, run_freeze, Sem.run_pure]
      · exact ha
      · exact r.put hy hp hw' (.cells l true c elem fr' hsz hl hcs (fun h => by cases h) hfr') hother
      · exact Ext.put hy hp (by simp [World.freeze]) hother rfl rfl rfl (fun e he => by simp only [elemOf, hw, hw'] at he ⊢; exact he)
    · cases h
  · rename_i e hs hd _
    split at h
    · rename_i he
      split at h
      · rename_i l hl
        split at h
        · rename_i s hb hlen
          rw [beq_nat, decide_eq_true_eq, len_eq] at hlen
          cases h
          rcases readSl_rel r ha hl with ⟨rfl, rfl⟩ | ⟨ad, n, c, cs, rfl, hrun⟩
          · cases hb
            have := VRel.str (φ := φ) ByteArray.empty
            refine res_val (w' := w) (v' := .string .empty) ?_ this (Same.refl w)
            rw [run_convert_bytes_string w src dst e none 0 0 hs he hd]; rfl
          · obtain ⟨h1, h2⟩ := hrun (by rw [hlen]; cases ha <;> first | rfl | cases hl)
            obtain ⟨bs, hbs, rfl⟩ := bytesIn_rel hb h2
            have hcs : cs = ((bs.map fun b => (b.toNat : Int)).map (Value.int .u8)).toArray := by
              apply Array.toList_inj.1
              rw [hbs]; simp
            rw [hcs] at h1
            have hrun' := run_bytesToString w ad n c _ h1
            have hdata := fold_push bs ByteArray.empty
            generalize (bs.map fun b => (b.toNat : Int)).foldl (fun r n => r.push (UInt8.ofNat n.toNat)) ByteArray.empty = out at hrun' hdata
            refine res_val (w' := w) (v' := .string out) ?_ ?_ (Same.refl w)
            · rw [run_convert_bytes_string w src dst e (some ad) n c hs he hd]; exact hrun'
            · have : bs.map UInt8.toNat = bytesOf out := by
                simp only [bytesOf, hdata]; simp
              rw [this]; exact .str _
        · cases h
      · cases h
    · cases h
  · cases h

/-! ## rows that are made -/
theorem make_rel {x : K} {t : TypeId} {l c : AV} {lv cv : Value} {res : XR} (hl : VRel φ l lv) (hc : VRel φ c cv) (h : xmake P x t l c = some res) :
    ∃ v o, res = .fresh v o ∧ OpRes P φ H w x (do pure (.value (← Instr.makeSlice t lv cv))) (.fresh v o) := by
  unfold xmake at h
  split at h
  · rename_i e n m hu hn hm
    obtain ⟨k, rfl⟩ := natOf_rel hl hn
    obtain ⟨k', rfl⟩ := natOf_rel hc hm
    split at h
    · rename_i i z h1 h2 hi hz
      split at h
      · rename_i h3
        cases h
        rw [ble_nat, decide_eq_true_eq] at h1 h2 h3
        obtain ⟨zv, s, hzr, hs, hzs, hzl, hfl, _⟩ := zeros_rel (φ := φ) hz
        have hs' : s = i.size := by simp only [sizeOf, hi, Option.some.injEq] at hs; exact hs.symm
        subst hs'
        refine ⟨_, _, rfl, .cells (Builtin.zeroCells zv.cells m) e, ⟨w.heap.size, 0, (Builtin.zeroCells zv.cells m).size, none⟩, .value (.slice (some ⟨w.heap.size, 0, none⟩) n m), _, { w with heap := w.heap.push (.cells (Builtin.zeroCells zv.cells m) e) }, ?_, .inl rfl, rfl, rfl, ⟨rfl, rfl, rfl⟩, fun hx => ⟨?_, ?_⟩⟩
        · have hwl : IntKind.i64.wrap (n : Int) = n := maxN_spec .i64 n (by show n ≤ 9223372036854775807; omega)
          have hwc : IntKind.i64.wrap (m : Int) = m := maxN_spec .i64 m h2
          have t1 : ¬ ((m : Int) < 0) := by omega
          have t1' : ¬ ((n : Int) < 0) := by omega
          have t2 : ¬ ((i.bytes : Int) * (m : Int) > 2 ^ 48) := by
            have : ((i.bytes * m : Nat) : Int) ≤ 2 ^ 48 := by exact_mod_cast h3
            push_cast at this
            omega
          have t3 : ¬ ((n : Int) > (m : Int)) := by omega
          simp only [Instr.makeSlice, Sem.run_bind, run_uty hu, Result.andThen_ok, asInt_int, run_info hi, hwl, hwc, t1, t1', t2, t3, decide_false, Bool.or_false, Bool.false_eq_true, if_false, Sem.run_pure, run_askRoom, Int.toNat_natCast, run_sizeOf (by simp only [sizeOf, hi] : sizeOf P e = some i.size)]
          by_cases h0 : m * i.size = 0
          · have hcells : (Array.range (m * i.size)).map (fun k => (#[] : Array Value)[k % (#[] : Array Value).size]!) = Builtin.zeroCells zv.cells m := by
              unfold Builtin.zeroCells; rw [hzs]; simp [h0]
            simp only [h0, if_true, Sem.run_bind, Sem.run_pure, Result.andThen_ok] at hcells ⊢
            rw [hcells]; simp only [run_newRow, Result.andThen_ok]
          · have hcells : (Array.range (m * i.size)).map (fun k => zv.cells[k % zv.cells.size]!) = Builtin.zeroCells zv.cells m := by
              unfold Builtin.zeroCells; rw [hzs]
            simp only [h0, if_false, Sem.run_bind, Sem.run_pure, Result.andThen_ok, hzr]
            rw [hcells]; simp only [run_newRow, Result.andThen_ok]
        · have := VRel.slx (φ := φ.with x ⟨w.heap.size, 0, (Builtin.zeroCells zv.cells m).size, none⟩) x 0 n m i.size _ (Em.with_same _ _ _)
          simpa using this
        · have := orel_cells (φ.with x ⟨w.heap.size, 0, (Builtin.zeroCells zv.cells m).size, none⟩) z (Builtin.zeroCells zv.cells m).toList e w.heap.size (hzl.mono (Em.le_with φ _ _ hx))
          simpa using this
      · cases h
    · cases h
  · cases h

theorem assert_rel {a res : AV} {v : Value} {t : TypeId} {c : Bool} (ha : VRel φ a v) (h : xassert P a t c = some res) (xt : TypeId) (w : World) :
    ∃ u, (Instr.typeAssert v xt t c).run P w = .ok u w ∧ VRel φ res u := by
  unfold xassert at h
  split at h
  · cases h
  · rename_i d hni hu
    have hd : ∀ ms, d ≠ .interface ms := fun ms e => by subst e; exact hni ms rfl
    split at h
    · rename_i u b
      cases ha with
      | iface _ _ bv hb =>
        have key : (Instr.typeAssert (.iface u bv) xt t c).run P w = (if u = t then (pure (if c then .tuple #[bv, .bool true] else bv) : Sem Value).run P w else (if c then (do pure (.tuple #[← zeroValue t, .bool false]) : Sem Value).run P w else (runtimePanic (.typeAssertion (some xt) (some u) t "") : Sem Value).run P w)) := by
          simp only [Instr.typeAssert, Sem.run_bind, run_uty hu, Result.andThen_ok]
          cases d <;> first | exact absurd rfl (hd _) | (by_cases e : u = t <;> simp only [e, if_true, if_false] <;> (cases c <;> first | rfl | simp))
        split at h
        · rename_i e1
          rw [beq_nat, decide_eq_true_eq] at e1
          cases h
          exact ⟨.tuple #[bv, .bool true], by rw [key, if_pos e1]; rfl, .tup _ _ (.cons _ _ _ _ hb (.cons _ _ _ _ (.bool _) .nil))⟩
        · rename_i e1
          rw [beq_nat, decide_eq_true_eq] at e1
          cases h
          exact ⟨bv, by rw [key, if_pos e1]; rfl, hb⟩
        · rename_i e1
          rw [beq_nat, decide_eq_false_iff_not] at e1
          split at h
          · rename_i z hz
            cases h
            obtain ⟨zv, hzr, rfl⟩ := run_zeros hz
            exact ⟨.tuple #[zv, .bool false], by rw [key, if_neg e1]; simp [hzr], .tup _ _ (.cons _ _ _ _ (ofConst_rel φ zv) (.cons _ _ _ _ (.bool _) .nil))⟩
          · cases h
        · cases h
    · cases ha
      split at h
      · rename_i z hz
        cases h
        obtain ⟨zv, hzr, rfl⟩ := run_zeros hz
        refine ⟨.tuple #[zv, .bool false], ?_, .tup _ _ (.cons _ _ _ _ (ofConst_rel φ zv) (.cons _ _ _ _ (.bool _) .nil))⟩
        simp only [Instr.typeAssert, Sem.run_bind, run_uty hu, Result.andThen_ok]
        have hz2 : ((do pure (Value.tuple #[← zeroValue t, .bool false]) : Sem Value)).run P w = .ok (.tuple #[zv, .bool false]) w := by simp [hzr]
        cases d <;> first | exact absurd rfl (hd _) | exact hz2
      · cases h
    · cases h
  · cases h

end
end Go.Sx
