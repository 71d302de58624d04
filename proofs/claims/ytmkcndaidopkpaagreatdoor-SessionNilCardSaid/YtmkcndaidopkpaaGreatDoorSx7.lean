/- Operations on numbers and strings, lengths, conversions. -/
import Derived.Test.YtmkcndaidopkpaaGreatDoorSx6
import Derived.Laws.Strings
namespace Go.Sx
noncomputable section
variable {P : Program} {φ : Em} {H : Hp} {w : World}

/-! ## whole numbers -/
theorem beq_int (a b : Int) : (a == b) = decide (a = b) := by
  by_cases h : a = b
  · subst h; simp
  · simp [h]
theorem intFn_rel {op : BinOp} {k : IntKind} {a b : Int} {r : AV} (hs : isShift op = false) (h : intFn op k a b = some r) (t : TypeId) (w : World) :
    ∃ u, (binOp op t (.int k a) (.int k b)).run P w = .ok u w ∧ VRel φ r u := by
  cases op <;> simp only [intFn, isShift, reduceCtorEq] at h hs
  case add => cases h; exact ⟨_, by simp [binOp, Op.intArith]; rfl, by rw [wrap_eq]; exact .int _ _⟩
  case sub => cases h; exact ⟨_, by simp [binOp, Op.intArith]; rfl, by rw [wrap_eq]; exact .int _ _⟩
  case mul => cases h; exact ⟨_, by simp [binOp, Op.intArith]; rfl, by rw [wrap_eq]; exact .int _ _⟩
  case quo =>
    split at h
    · cases h
    · rename_i hz
      cases h
      rw [eqI_eq] at hz
      have hb : b ≠ 0 := by simpa using hz
      exact ⟨_, by simp [binOp, Op.intDiv, hb]; rfl, by rw [wrap_eq]; exact .int _ _⟩
  case rem =>
    split at h
    · cases h
    · rename_i hz
      cases h
      rw [eqI_eq] at hz
      have hb : b ≠ 0 := by simpa using hz
      exact ⟨.int k (a.tmod b), by simp [binOp, Op.intDiv, hb], .int _ _⟩
  case and => cases h; exact ⟨_, by simp only [binOp, ne_eq, not_true_eq_false, if_false]; rfl, .int _ _⟩
  case or => cases h; exact ⟨_, by simp only [binOp, ne_eq, not_true_eq_false, if_false]; rfl, .int _ _⟩
  case xor => cases h; exact ⟨_, by simp only [binOp, ne_eq, not_true_eq_false, if_false]; rfl, .int _ _⟩
  case andNot => cases h; exact ⟨_, by simp only [binOp, ne_eq, not_true_eq_false, if_false]; rfl, .int _ _⟩
  case eql => cases h; exact ⟨_, by simp [binOp, Op.intCmp]; rfl, by rw [eqI_eq]; exact .bool _⟩
  case neq => cases h; exact ⟨.bool (a != b), by simp [binOp, Op.intCmp], by rw [eqI_eq, notB_eq]; exact .bool _⟩
  case lss => cases h; exact ⟨_, by simp [binOp, Op.intCmp]; rfl, by rw [ltI_eq]; exact .bool _⟩
  case leq => cases h; exact ⟨.bool (decide (a ≤ b)), by simp [binOp, Op.intCmp], by rw [ltI_eq, notB_eq, show (!decide (b < a)) = decide (a ≤ b) from by rw [← decide_not]; exact decide_eq_decide.2 (by omega)]; exact .bool _⟩
  case gtr => cases h; exact ⟨.bool (decide (a > b)), by simp [binOp, Op.intCmp], by rw [ltI_eq]; exact .bool _⟩
  case geq => cases h; exact ⟨.bool (decide (a ≥ b)), by simp [binOp, Op.intCmp], by rw [ltI_eq, notB_eq, show (!decide (a < b)) = decide (a ≥ b) from by rw [← decide_not]; exact decide_eq_decide.2 (by omega)]; exact .bool _⟩
  all_goals cases h

theorem shift_rel {op : BinOp} {k yk : IntKind} {a b : Int} {r : AV} (hs : isShift op = true) (h : shiftOp op k a b = some r) (t : TypeId) (w : World) :
    ∃ u, (binOp op t (.int k a) (.int yk b)).run P w = .ok u w ∧ VRel φ r u := by
  unfold shiftOp at h
  split at h
  · cases h
  · rename_i n
    have hn : ¬ ((n : Int) < 0) := by omega
    have hp : ((2 ^ (Nat.min n k.bits) : Nat) : Int) = (2 : Int) ^ (Nat.min n k.bits) := by push_cast; rfl
    cases op <;> simp only [isShift, Bool.false_eq_true] at hs
    case shl =>
      simp only at h
      cases h
      refine ⟨.int k (k.wrap (a * 2 ^ (Nat.min n k.bits))), ?_, by rw [wrap_eq, hp]; exact .int _ _⟩
      simp only [binOp, Op.shift, Int.ofNat_eq_natCast, hn, if_false, Int.toNat_natCast]; rfl
    case shr =>
      simp only at h
      cases h
      refine ⟨_, ?_, .int _ _⟩
      simp only [binOp, Op.shift, Int.ofNat_eq_natCast, hn, if_false, Int.toNat_natCast]; rfl

/-! ## strings -/
theorem byte_inj {a b : UInt8} (h : a.toNat = b.toNat) : a = b := UInt8.toNat_inj.1 h
theorem map_byte_inj : ∀ {l m : List UInt8}, l.map UInt8.toNat = m.map UInt8.toNat → l = m
  | [], [], _ => rfl
  | [], _ :: _, h => by simp at h
  | _ :: _, [], h => by simp at h
  | x :: l, y :: m, h => by
    simp only [List.map_cons, List.cons.injEq] at h
    rw [byte_inj h.1, map_byte_inj h.2]
theorem bytesOf_inj {a b : ByteArray} (h : bytesOf a = bytesOf b) : a = b := by
  have := map_byte_inj h
  cases a; cases b
  congr
  exact Array.toList_inj.1 this
theorem bytesOf_len (s : ByteArray) : (bytesOf s).length = s.size := by simp [bytesOf]
theorem bytesOf_append (a b : ByteArray) : bytesOf (a ++ b) = bytesOf a ++ bytesOf b := by simp [bytesOf, ByteArray.data_append]
theorem bytesOf_beq (a b : ByteArray) : (bytesOf a == bytesOf b) = (a.toList == b.toList) := by
  rw [ByteArray.toList_eq, ByteArray.toList_eq]
  by_cases h : a = b
  · subst h; simp
  · have h1 : bytesOf a ≠ bytesOf b := fun e => h (bytesOf_inj e)
    have h2 : a.data.toList ≠ b.data.toList := fun e => h1 (by simp [bytesOf, e])
    rw [beq_eq_false_iff_ne.2 h1, beq_eq_false_iff_ne.2 h2]
theorem ltL_bytes : ∀ a b : List UInt8, ltL (a.map UInt8.toNat) (b.map UInt8.toNat) = Op.bytesLess a b
  | [], [] => by simp [ltL, Op.bytesLess]
  | _ :: _, [] => by simp [ltL, Op.bytesLess]
  | [], _ :: _ => by simp [ltL, Op.bytesLess]
  | x :: a, y :: b => by
    simp only [List.map_cons, ltL, Op.bytesLess, ble_nat, beq_nat]
    by_cases h1 : x.toNat + 1 ≤ y.toNat
    · have : x < y := UInt8.lt_iff_toNat_lt.2 h1
      simp [h1, this]
    · have h1' : ¬ x < y := fun h => h1 (UInt8.lt_iff_toNat_lt.1 h)
      simp only [h1, decide_false, h1', Bool.false_or]
      by_cases h2 : x.toNat = y.toNat
      · have := byte_inj h2; subst this
        simp [ltL_bytes a b]
      · have : x ≠ y := fun e => h2 (by rw [e])
        simp [h2, this]
theorem strOp_rel {op : BinOp} {a b : ByteArray} {r : AV} (h : strOp op (bytesOf a) (bytesOf b) = some r) (t : TypeId) (w : World) :
    ∃ u, (binOp op t (.string a) (.string b)).run P w = .ok u w ∧ VRel φ r u := by
  have e1 : eqL (bytesOf a) (bytesOf b) = (a.toList == b.toList) := by rw [eqL_eq, bytesOf_beq]
  have e2 : ltL (bytesOf a) (bytesOf b) = Op.bytesLess a.toList b.toList := by rw [ByteArray.toList_eq, ByteArray.toList_eq]; exact ltL_bytes _ _
  unfold strOp at h
  cases op <;> simp only at h
  case add =>
    split at h
    · rename_i hle
      cases h
      rw [ble_nat, decide_eq_true_eq, bytesOf_len, bytesOf_len] at hle
      have : ¬ (((a.size + b.size : Nat) : Int) > IntKind.i64.max) := by
        show ¬ (((a.size + b.size : Nat) : Int) > 2 ^ 63 - 1)
        omega
      refine ⟨.string (a ++ b), ?_, by rw [← bytesOf_append]; exact .str _⟩
      simp only [binOp, Op.stringOp, this, if_false, Sem.run_pure]
    · cases h
  case eql => cases h; exact ⟨_, by simp [binOp, Op.stringOp]; rfl, by rw [e1]; exact .bool _⟩
  case neq => cases h; exact ⟨_, by simp [binOp, Op.stringOp]; rfl, by rw [notB_eq, e1]; exact .bool _⟩
  case lss => cases h; exact ⟨_, by simp [binOp, Op.stringOp]; rfl, by rw [e2]; exact .bool _⟩
  case leq => cases h; exact ⟨.bool (Op.bytesLess a.toList b.toList || a.toList == b.toList), by simp [binOp, Op.stringOp], by rw [e1, e2]; exact .bool _⟩
  case gtr => cases h; exact ⟨.bool !(Op.bytesLess a.toList b.toList || a.toList == b.toList), by simp [binOp, Op.stringOp], by rw [e1, e2]; exact .bool _⟩
  case geq => cases h; exact ⟨.bool !(Op.bytesLess a.toList b.toList), by simp [binOp, Op.stringOp], by rw [e2]; exact .bool _⟩
  all_goals cases h

/-! ## floats -/
theorem floatOp_rel {op : BinOp} {k : FloatKind} {a b : Nat} {r : AV} (h : floatOp op k a b = some r) (t : TypeId) (w : World) :
    ∃ u, (binOp op t (.float k a) (.float k b)).run P w = .ok u w ∧ VRel φ r u := by
  unfold floatOp at h
  cases op <;> simp only at h
  case leq => cases h; exact ⟨_, by simp only [binOp, ne_eq, not_true_eq_false, if_false, Op.floatCmp, Sem.run_pure], .bool _⟩
  case lss => cases h; exact ⟨_, by simp only [binOp, ne_eq, not_true_eq_false, if_false, Op.floatCmp, Sem.run_pure], .bool _⟩
  case gtr => cases h; exact ⟨_, by simp only [binOp, ne_eq, not_true_eq_false, if_false, Op.floatCmp, Sem.run_pure], .bool _⟩
  case geq => cases h; exact ⟨_, by simp only [binOp, ne_eq, not_true_eq_false, if_false, Op.floatCmp, Sem.run_pure], .bool _⟩
  all_goals cases h

/-! ## one operand -/
theorem un_rel {op : UnOp} {a r : AV} {v : Value} (ha : VRel φ a v) (h : xun op a = some r) (w : World) : ∃ u, (Op.unary op v).run P w = .ok u w ∧ VRel φ r u := by
  unfold xun at h
  split at h
  · rename_i b; cases h
    have := rel_bool ha; subst this
    exact ⟨.bool (!b), by simp [Op.unary], by rw [notB_eq]; exact .bool _⟩
  · rename_i k n; cases h
    have := rel_int ha; subst this
    exact ⟨.int k (k.wrap (0 - n)), by simp [Op.unary, Op.intArith], by rw [wrap_eq]; exact .int _ _⟩
  · rename_i k n
    have := rel_int ha; subst this
    split at h
    · rename_i hs; cases h
      exact ⟨_, by simp only [Op.unary, hs, if_true]; rfl, .int _ _⟩
    · rename_i hs; cases h
      exact ⟨_, by simp only [Op.unary, hs, Bool.false_eq_true, if_false]; rfl, .int _ _⟩
  · cases h

/-! ## lengths -/
theorem lenS_rel {a r : AV} {v : Value} (ha : VRel φ a v) (h : lenS a = some r) : ∃ b n c, v = .slice b n c ∧ VRel φ r (goInt n) := by
  unfold lenS at h
  split at h
  · cases h; cases ha; exact ⟨_, _, _, rfl, .int _ _⟩
  · cases h; cases ha; exact ⟨_, _, _, rfl, .int _ _⟩
  · cases h
    obtain ⟨q, c', _, rfl, _⟩ := rel_sl ha
    exact ⟨_, _, _, rfl, .int _ _⟩
  · cases h

theorem HRel.map_at (r : HRel P φ H w) {x : K} {es : List (AV × AV × Nat)} {c : Nat} {p : Pl} (hx : H.get x = some (.map es c)) (hp : φ x = some p) :
    ∃ en, w.heap[p.blk]? = some (.map en c) ∧ ERel φ es en.toList := by
  obtain ⟨q, ob, hq, hw, hr⟩ := r.obj x _ hx
  rw [hp] at hq; cases hq
  cases hr with
  | map _ en _ h => exact ⟨en, hw, h⟩
theorem ERel.length : ∀ {l : List (AV × AV × Nat)} {es : List MapEntry}, ERel φ l es → es.length = l.length
  | _, _, .nil => rfl
  | _, _, .cons _ _ _ _ _ _ _ _ _ h => by simp [ERel.length h]
theorem run_getObj_map {b : Nat} {en : Array MapEntry} {c : Nat} (h : w.heap[b]? = some (.map en c)) : (getObj b).run P w = .ok (.map en c) w := by
  simp [getObj, Sem.run, h]

theorem len_rel (r : HRel P φ H w) {t : TypeId} {a b : AV} {v : Value} (ha : VRel φ a v) (h : xlen P H t a = some b) {ts : Array TypeId} {args : Array Value} {ty : TypeId}
    (ht : ts[0]? = some t) (hv : args[0]? = some v) : ∃ u, (Builtin.len_ ts ty args).run P w = .ok u w ∧ VRel φ b u := by
  unfold xlen at h
  unfold Builtin.len_
  simp only [ht, hv]
  split at h
  · rename_i n e hu; cases h
    exact ⟨_, by simp only [Sem.run_bind, run_uty hu, Result.andThen_ok]; rfl, .int _ _⟩
  · rename_i e hu
    split at h
    · rename_i n _ hu'; cases h
      exact ⟨_, by simp only [Sem.run_bind, run_uty hu, run_uty hu', Result.andThen_ok]; rfl, .int _ _⟩
    · cases h
  · rename_i hu
    split at h
    · rename_i s; cases h
      obtain ⟨bs, rfl, rfl⟩ := rel_str ha
      refine ⟨goInt bs.size, by simp only [Sem.run_bind, run_uty hu, Result.andThen_ok]; rfl, ?_⟩
      rw [bytesOf_len]; exact .int _ _
    · cases h
  · rename_i e hu
    obtain ⟨bb, n, c, rfl, hr⟩ := lenS_rel ha h
    exact ⟨_, by simp only [Sem.run_bind, run_uty hu, Result.andThen_ok]; rfl, hr⟩
  · rename_i k e hu
    split at h
    · cases h; cases ha
      exact ⟨_, by simp only [Sem.run_bind, run_uty hu, Result.andThen_ok]; rfl, .int _ _⟩
    · rename_i x
      split at h
      · rename_i es c hx
        cases h
        cases ha with
        | mapv _ p hp =>
          obtain ⟨en, hw, her⟩ := r.map_at hx hp
          refine ⟨goInt en.size, by simp only [Sem.run_bind, run_uty hu, Result.andThen_ok, run_getObj_map hw]; rfl, ?_⟩
          have : en.size = es.length := by have := her.length; simpa using this
          rw [this]; exact .int _ _
      · cases h
    · cases h
  · cases h

theorem cap_rel {t : TypeId} {a b : AV} {v : Value} (ha : VRel φ a v) (h : xcap P t a = some b) {ts : Array TypeId} {args : Array Value} {ty : TypeId}
    (ht : ts[0]? = some t) (hv : args[0]? = some v) (w : World) : ∃ u, (Builtin.cap_ ts ty args).run P w = .ok u w ∧ VRel φ b u := by
  unfold xcap at h
  unfold Builtin.cap_
  simp only [ht, hv]
  split at h
  · rename_i e hu
    split at h
    · cases h; cases ha
      exact ⟨_, by simp only [Sem.run_bind, run_uty hu, Result.andThen_ok]; rfl, .int _ _⟩
    · cases h
      obtain ⟨q, c', _, rfl, _, hc, _⟩ := rel_sl ha
      refine ⟨_, by simp only [Sem.run_bind, run_uty hu, Result.andThen_ok]; rfl, ?_⟩
      rw [hc rfl]; exact .int _ _
    · cases h
  · cases h

/-! ## numbers in a range -/
theorem asRng_rel {a : AV} {k : IntKind} {R : Rg} {u : Value} (ha : VRel φ a u) (h : asRng a = some (k, R)) : ∃ x : Nat, u = .int k (.ofNat x) ∧ R.lo ≤ x ∧ x ≤ R.hi ∧ x % R.m = R.r := by
  unfold asRng at h
  split at h
  · cases h
    exact ⟨_, rel_int ha, Nat.le_refl _, Nat.le_refl _, Nat.mod_one _⟩
  · cases h
    cases ha with
    | rng _ _ _ _ _ x h1 h2 h3 => exact ⟨x, rfl, h1, h2, h3⟩
  · cases h
theorem mkR_rel {k : IntKind} {lo hi x : Nat} (h1 : lo ≤ x) (h2 : x ≤ hi) : VRel φ (mkR k lo hi) (.int k (.ofNat x)) := by
  unfold mkR
  rw [beq_nat]
  by_cases e : lo = hi
  · have : x = lo := by omega
    subst this
    simp only [e, decide_true]
    exact .int _ _
  · simp only [e, decide_false]
    exact .rng _ _ _ _ _ x h1 h2 (Nat.mod_one _)
theorem rngLt_rel {a b : Rg} {x y : Nat} (h1 : a.lo ≤ x) (h2 : x ≤ a.hi) (h3 : b.lo ≤ y) (h4 : y ≤ b.hi) : VRel φ (rngLt a b) (.bool (decide (x < y))) := by
  unfold rngLt
  simp only [ble_nat]
  by_cases e : a.hi + 1 ≤ b.lo
  · have : x < y := by omega
    simp only [e, this, decide_true]; exact .bool _
  · by_cases e' : b.hi ≤ a.lo
    · have : ¬ x < y := by omega
      simp only [e, e', this, decide_true, decide_false]; exact .bool _
    · simp only [e, e', decide_false]; exact .anyb _
theorem rngLe_rel {a b : Rg} {x y : Nat} (h1 : a.lo ≤ x) (h2 : x ≤ a.hi) (h3 : b.lo ≤ y) (h4 : y ≤ b.hi) : VRel φ (rngLe a b) (.bool (decide (x ≤ y))) := by
  unfold rngLe
  simp only [ble_nat]
  by_cases e : a.hi ≤ b.lo
  · have : x ≤ y := by omega
    simp only [e, this, decide_true]; exact .bool _
  · by_cases e' : b.hi + 1 ≤ a.lo
    · have : ¬ x ≤ y := by omega
      simp only [e, e', this, decide_true, decide_false]; exact .bool _
    · simp only [e, e', decide_false]; exact .anyb _
theorem rngEq_rel {a b : Rg} {x y : Nat} (neg : Bool) (h1 : a.lo ≤ x) (h2 : x ≤ a.hi) (h3 : b.lo ≤ y) (h4 : y ≤ b.hi) : VRel φ (rngEq neg a b) (.bool (if neg then !decide (x = y) else decide (x = y))) := by
  unfold rngEq
  simp only [ble_nat]
  by_cases e : a.hi + 1 ≤ b.lo ∨ b.hi + 1 ≤ a.lo
  · have : ¬ x = y := by omega
    have e2 : (decide (a.hi + 1 ≤ b.lo) || decide (b.hi + 1 ≤ a.lo)) = true := by simpa using e
    simp only [e2, this, decide_false]
    cases neg <;> exact .bool _
  · have e2 : (decide (a.hi + 1 ≤ b.lo) || decide (b.hi + 1 ≤ a.lo)) = false := by simpa using e
    simp only [e2]; exact .anyb _

theorem rngOp_rel {op : BinOp} {k : IntKind} {p q : Rg} {c : AV} {x y : Nat} (h : rngOp op k p q = some c) (h1 : p.lo ≤ x) (h2 : x ≤ p.hi) (h3 : x % p.m = p.r) (h4 : q.lo ≤ y) (h5 : y ≤ q.hi) :
    isShift op = false ∧ ∃ d, intFn op k (.ofNat x) (.ofNat y) = some d ∧ ∀ u, VRel φ d u → VRel φ c u := by
  have wr : ∀ n : Nat, n ≤ maxN k → wrap k (.ofNat n) = .ofNat n := fun n hn => by rw [wrap_eq, maxN_spec k n hn]
  have bo : ∀ {b b' : Bool} {u : Value}, b = b' → VRel φ c (.bool b) → VRel φ (.bool b') u → VRel φ c u := fun e hc hu => by
    cases hu; rw [← e]; exact hc
  cases op <;> simp only [rngOp] at h <;> first | (cases h; done) | refine ⟨rfl, ?_⟩
  case add =>
    split at h
    · rename_i hb
      rw [ble_nat] at hb
      have hb := of_decide_eq_true hb
      cases h
      refine ⟨.int k (.ofNat (x + y)), ?_, fun u hu => ?_⟩
      · show some (AV.int k (wrap k (.ofNat (x + y)))) = _
        rw [wr _ (by omega)]
      · cases hu; exact mkR_rel (by omega) (by omega)
    · cases h
  case sub =>
    split at h
    · rename_i hb
      simp only [ble_nat, Bool.and_eq_true, decide_eq_true_eq] at hb
      cases h
      refine ⟨.int k (.ofNat (x - y)), ?_, fun u hu => ?_⟩
      · show some (AV.int k (wrap k (Int.ofNat x - Int.ofNat y))) = _
        have : Int.ofNat x - Int.ofNat y = Int.ofNat (x - y) := by
          have : y ≤ x := by omega
          simp only [Int.ofNat_eq_natCast]; omega
        rw [this, wr _ (by omega)]
      · cases hu; exact mkR_rel (by omega) (by omega)
    · cases h
  case quo =>
    split at h
    · rename_i hb
      simp only [ble_nat, beq_nat, Bool.and_eq_true, decide_eq_true_eq] at hb
      obtain ⟨⟨e1, e2⟩, e3⟩ := hb
      have hy : y = q.lo := by omega
      subst hy
      cases h
      refine ⟨.int k (.ofNat (x / q.lo)), ?_, fun u hu => ?_⟩
      · have h0 : eqI (Int.ofNat q.lo) 0 = false := by
          rw [eqI_eq]; simp; omega
        show (match eqI (Int.ofNat q.lo) 0 with | true => none | false => some (AV.int k (wrap k ((Int.ofNat x).tdiv (Int.ofNat q.lo))))) = _
        rw [h0]
        show some (AV.int k (wrap k (.ofNat (x / q.lo)))) = _
        rw [wr _ (Nat.le_trans (Nat.div_le_self _ _) (by omega))]
      · cases hu; exact mkR_rel (Nat.div_le_div_right h1) (Nat.div_le_div_right h2)
    · cases h
  case rem =>
    split at h
    · rename_i hb
      simp only [ble_nat, beq_nat, Bool.and_eq_true, decide_eq_true_eq] at hb
      obtain ⟨e1, e2⟩ := hb
      have hy : y = q.lo := by omega
      subst hy
      refine ⟨.int k (.ofNat (x % q.lo)), ?_, fun u hu => ?_⟩
      · have h0 : eqI (Int.ofNat q.lo) 0 = false := by
          rw [eqI_eq]; simp; omega
        show (match eqI (Int.ofNat q.lo) 0 with | true => none | false => some (AV.int k ((Int.ofNat x).tmod (Int.ofNat q.lo)))) = _
        rw [h0]
        rfl
      · cases hu
        split at h
        · rename_i hm
          rw [beq_nat] at hm
          have hm := of_decide_eq_true hm
          cases h
          rw [← hm, h3]; exact .int _ _
        · cases h
          exact mkR_rel (Nat.zero_le _) (by have := Nat.mod_lt x (show 0 < q.lo by omega); omega)
    · cases h
  case eql =>
    cases h
    refine ⟨_, rfl, fun u hu => bo ?_ (rngEq_rel false h1 h2 h4 h5) hu⟩
    rw [eqI_eq]; simp
    by_cases e : x = y
    · subst e; simp
    · have : ¬ ((x : Int) = (y : Int)) := by omega
      simp [e, this]
  case neq =>
    cases h
    refine ⟨_, rfl, fun u hu => bo ?_ (rngEq_rel true h1 h2 h4 h5) hu⟩
    rw [notB_eq, eqI_eq]; simp
    by_cases e : x = y
    · subst e; simp
    · have : ¬ ((x : Int) = (y : Int)) := by omega
      simp [e, this]
  case lss =>
    cases h
    refine ⟨_, rfl, fun u hu => bo ?_ (rngLt_rel h1 h2 h4 h5) hu⟩
    rw [ltI_eq]; simp
  case leq =>
    cases h
    refine ⟨_, rfl, fun u hu => bo ?_ (rngLe_rel h1 h2 h4 h5) hu⟩
    rw [notB_eq, ltI_eq]
    by_cases e : x ≤ y
    · simp [e]
    · simp [e]; omega
  case gtr =>
    cases h
    refine ⟨_, rfl, fun u hu => bo ?_ (rngLt_rel h4 h5 h1 h2) hu⟩
    rw [ltI_eq]; simp
  case geq =>
    cases h
    refine ⟨_, rfl, fun u hu => bo ?_ (rngLe_rel h4 h5 h1 h2) hu⟩
    rw [notB_eq, ltI_eq]
    by_cases e : y ≤ x
    · simp [e]
    · simp [e]; omega
theorem rngBin_rel {op : BinOp} {a b c : AV} {u v : Value} (ha : VRel φ a u) (hb : VRel φ b v) (h : rngBin op a b = some c) :
    ∃ (k : IntKind) (m n : Int) (d : AV), u = .int k m ∧ v = .int k n ∧ isShift op = false ∧ intFn op k m n = some d ∧ ∀ w, VRel φ d w → VRel φ c w := by
  unfold rngBin at h
  split at h
  · rename_i k p k' q hp hq
    split at h
    · rename_i hk
      have := kNat_inj hk; subst this
      obtain ⟨x, rfl, h1, h2, h3⟩ := asRng_rel ha hp
      obtain ⟨y, rfl, h4, h5, _⟩ := asRng_rel hb hq
      obtain ⟨hs, d, hd, hr⟩ := rngOp_rel (φ := φ) h h1 h2 h3 h4 h5
      exact ⟨k, _, _, d, rfl, rfl, hs, hd, hr⟩
    · cases h
  · cases h

theorem convR_rel {k : IntKind} {a b : AV} {v : Value} (ha : VRel φ a v) (h : convR k a = some b) : ∃ x : Nat, (∃ s, v = .int s (.ofNat x)) ∧ VRel φ b (.int k (k.wrap (.ofNat x))) := by
  unfold convR at h
  split at h
  · split at h
    · rename_i hb
      rw [ble_nat] at hb
      have hb := of_decide_eq_true hb
      cases h
      cases ha with
      | rng _ _ _ _ _ x h1 h2 h3 =>
        refine ⟨x, ⟨_, rfl⟩, ?_⟩
        rw [maxN_spec k x (by omega)]
        exact .rng k _ _ _ _ x h1 h2 h3
    · cases h
  · cases h

/-! ## the least and the greatest -/
theorem min2_rel {lt : Bool} {a b c : AV} {u v : Value} (ha : VRel φ a u) (hb : VRel φ b v) (h : xmin2 lt a b = some c) (w : World) :
    ∃ r, ((match lt with | true => Builtin.min2 u v | false => Builtin.max2 u v) : Sem Value).run P w = .ok r w ∧ VRel φ c r := by
  unfold xmin2 at h
  split at h
  · rename_i k x k' y
    have := rel_int ha; subst this
    have := rel_int hb; subst this
    cases lt with
    | true =>
      simp only [ltI_eq] at h
      by_cases hc : y < x
      · simp [hc] at h; subst h
        exact ⟨.int k y, by simp [Builtin.min2, hc], .int _ _⟩
      · simp [hc] at h; subst h
        exact ⟨.int k x, by simp [Builtin.min2, hc], .int _ _⟩
    | false =>
      simp only [ltI_eq] at h
      by_cases hc : x < y
      · simp [hc] at h; subst h
        exact ⟨.int k y, by simp [Builtin.max2, hc], .int _ _⟩
      · simp [hc] at h; subst h
        exact ⟨.int k x, by simp [Builtin.max2, hc], .int _ _⟩
  · unfold rngMin at h
    split at h
    · rename_i k p k' q hp hq
      split at h
      · rename_i hk
        have := kNat_inj hk; subst this
        obtain ⟨x, rfl, h1, h2, h3⟩ := asRng_rel ha hp
        obtain ⟨y, rfl, h4, h5, _⟩ := asRng_rel hb hq
        cases lt with
        | true =>
          cases h
          by_cases hc : Int.ofNat y < Int.ofNat x
          · refine ⟨.int k (.ofNat y), by simp only [Builtin.min2, hc, if_true]; rfl, mkR_rel ?_ ?_⟩ <;> simp only [Int.ofNat_eq_natCast] at hc <;> first | (show min _ _ ≤ _; omega) | (show _ ≤ min _ _; omega) | (show max _ _ ≤ _; omega) | (show _ ≤ max _ _; omega)
          · refine ⟨.int k (.ofNat x), by simp only [Builtin.min2, hc, if_false]; rfl, mkR_rel ?_ ?_⟩ <;> simp only [Int.ofNat_eq_natCast] at hc <;> first | (show min _ _ ≤ _; omega) | (show _ ≤ min _ _; omega) | (show max _ _ ≤ _; omega) | (show _ ≤ max _ _; omega)
        | false =>
          cases h
          by_cases hc : Int.ofNat x < Int.ofNat y
          · refine ⟨.int k (.ofNat y), by simp only [Builtin.max2, hc, if_true]; rfl, mkR_rel ?_ ?_⟩ <;> simp only [Int.ofNat_eq_natCast] at hc <;> first | (show min _ _ ≤ _; omega) | (show _ ≤ min _ _; omega) | (show max _ _ ≤ _; omega) | (show _ ≤ max _ _; omega)
          · refine ⟨.int k (.ofNat x), by simp only [Builtin.max2, hc, if_false]; rfl, mkR_rel ?_ ?_⟩ <;> simp only [Int.ofNat_eq_natCast] at hc <;> first | (show min _ _ ≤ _; omega) | (show _ ≤ min _ _; omega) | (show max _ _ ≤ _; omega) | (show _ ≤ max _ _; omega)
      · cases h
    · cases h
theorem fold_rel {lt : Bool} : ∀ {l : List AV} {vs : List Value} {a c : AV} {u : Value}, VRel φ a u → VRels φ l vs → xfold lt a l = some c → ∀ w : World,
    ∃ r, (vs.foldlM (m := Sem) (fun u v => match lt with | true => Builtin.min2 u v | false => Builtin.max2 u v) u).run P w = .ok r w ∧ VRel φ c r
  | _, _, a, c, u, ha, .nil, h, w => by cases h; exact ⟨u, by simp, ha⟩
  | _, _, a, c, u, ha, .cons b v l vs hb hl, h, w => by
    simp only [xfold] at h
    split at h
    · rename_i d hd
      obtain ⟨r, hr, hrel⟩ := min2_rel (P := P) ha hb hd w
      obtain ⟨s, hs, hsr⟩ := fold_rel hrel hl h w
      refine ⟨s, ?_, hsr⟩
      simp only [List.foldlM_cons, Sem.run_bind, hr, Result.andThen_ok]
      exact hs
    · cases h

end
end Go.Sx
