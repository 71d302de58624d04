/- Regions whose order is open: what the table of such a region says, and what an order of it is. -/
import Derived.Test.YtmkcndaidopkpaaGreatDoorSx18
import Derived.Orders
namespace Go.Sx
noncomputable section
variable {P : Program}

/-! ## masks -/
theorem testBit_pow (t i : Nat) : Nat.testBit (2 ^ t) i = decide (t = i) := Nat.testBit_two_pow
theorem apart_spec {a b : Nat} (h : apart a b = true) (i : Nat) (ha : Nat.testBit a i = true) : Nat.testBit b i = false := by
  have h : Nat.land a b = 0 := by simpa [apart, beq_nat] using h
  have := congrArg (fun n => Nat.testBit n i) h
  have h' : (Nat.testBit a i && Nat.testBit b i) = false := by
    have e : Nat.testBit (Nat.land a b) i = (Nat.testBit a i && Nat.testBit b i) := Nat.testBit_and a b i
    rw [← e]; simpa using this
  rw [ha] at h'; simpa using h'
theorem testBit_lor (a b i : Nat) : Nat.testBit (Nat.lor a b) i = (Nat.testBit a i || Nat.testBit b i) := Nat.testBit_or a b i
theorem bit_spec (d i : Nat) : Nat.testBit (bit (some d)) i = decide (d = i) := testBit_pow d i
theorem tmask_spec {i : Nat} : ∀ {l : List Operand}, .tmp i ∈ l → Nat.testBit (tmask l) i = true
  | [], h => by simp at h
  | x :: r, h => by
    rcases List.mem_cons.1 h with rfl | h
    · simp only [tmask, testBit_lor, testBit_pow]; simp
    · have := tmask_spec h
      cases x <;> simp only [tmask, testBit_lor, this, Bool.or_true]

/-! ## rows -/
theorem rowsOf_cons (all : List Oper) (o : Oper) (r : List Oper) (ms : List Nat) : rowsOf P all (o :: r) ms = rowOf P all ms o :: rowsOf P all r (ms ++ [(rowOf P all ms o).anc]) := rfl
theorem rowsOf_length (all : List Oper) : ∀ (l : List Oper) (ms : List Nat), (rowsOf P all l ms).length = l.length
  | [], _ => rfl
  | o :: r, ms => by rw [rowsOf_cons]; simp [rowsOf_length all r]
theorem rowsOf_get (all : List Oper) : ∀ (l : List Oper) (ms : List Nat) (k : Nat) (o : Oper), l[k]? = some o →
    (rowsOf P all l ms)[k]? = some (rowOf P all (ms ++ ((rowsOf P all l ms).take k).map (·.anc)) o)
  | [], _, k, _, h => by simp at h
  | x :: r, ms, 0, o, h => by
    simp at h; subst h
    rw [rowsOf_cons]; simp
  | x :: r, ms, k + 1, o, h => by
    rw [rowsOf_cons]
    have := rowsOf_get all r (ms ++ [(rowOf P all ms x).anc]) k o (by simpa using h)
    simp only [List.getElem?_cons_succ, this, List.take_succ_cons, List.map_cons, List.append_assoc, List.singleton_append]

theorem nthN_eq : ∀ (l : List Nat) (n : Nat), nthN l n = l.getD n 0
  | [], n => by simp [nthN]
  | x :: r, 0 => rfl
  | x :: r, n + 1 => by simp [nthN, nthN_eq r n]

def firm (e : Edge) : Bool := Region.binds .any e
theorem firm_binds {md : Region.Mode} {e : Edge} (h : firm e = true) : Region.binds md e = true := by
  unfold firm Region.binds at h
  unfold Region.binds
  cases hg : e.ground <;> simp_all

theorem ancOf_spec {ms : List Nat} {i : Nat} : ∀ {es : List Edge}, Nat.testBit (ancOf ms es) i = true → ∃ e ∈ es, firm e = true ∧ (e.on = i ∨ Nat.testBit (nthN ms e.on) i = true)
  | [], h => by simp [ancOf] at h
  | e :: r, h => by
    have go : Nat.testBit (ancOf ms r) i = true → ∃ e' ∈ e :: r, firm e' = true ∧ (e'.on = i ∨ Nat.testBit (nthN ms e'.on) i = true) := fun h => by
      obtain ⟨e', h1, h2⟩ := ancOf_spec h
      exact ⟨e', by simp [h1], h2⟩
    have here : firm e = true → Nat.testBit (ancOf.orAnc ms e.on (ancOf ms r)) i = true → ∃ e' ∈ e :: r, firm e' = true ∧ (e'.on = i ∨ Nat.testBit (nthN ms e'.on) i = true) := fun hf h => by
      unfold ancOf.orAnc at h
      split at h
      · exact go h
      · simp only [testBit_lor, testBit_pow, Bool.or_eq_true, decide_eq_true_eq] at h
        rcases h with (h | h) | h
        · exact ⟨e, by simp, hf, .inl h⟩
        · exact ⟨e, by simp, hf, .inr h⟩
        · exact go h
    simp only [ancOf] at h
    split at h
    · exact go h
    · exact go h
    · rename_i hg hg'
      refine here ?_ h
      unfold firm Region.binds
      split
      · rename_i hx; exact absurd hx (by first | exact hg _ | exact hg' _)
      · rename_i hx; exact absurd hx (by first | exact hg' _ | exact hg _)
      · rfl

/-- one comes ahead of another by the table. -/
def Anc (rows : List Row) (j i : Nat) : Prop := ∃ y, rows[j]? = some y ∧ Nat.testBit y.anc i = true

theorem anc_step {ops : Array Oper} {j i : Nat} {o : Oper} (ho : ops[j]? = some o) (h : Anc (rowsOf P ops.toList ops.toList []) j i) :
    ∃ e ∈ o.after, firm e = true ∧ (e.on = i ∨ Anc (rowsOf P ops.toList ops.toList []) e.on i) := by
  obtain ⟨y, hy, hb⟩ := h
  have hg := rowsOf_get (P := P) ops.toList ops.toList [] j o (by simpa using ho)
  rw [hy] at hg
  cases hg
  obtain ⟨e, he, hf, hor⟩ := ancOf_spec (es := o.after.toList) (show Nat.testBit (ancOf _ o.after.toList) i = true from hb)
  refine ⟨e, by simpa using he, hf, ?_⟩
  rcases hor with h | h
  · exact .inl h
  · right
    rw [nthN_eq] at h
    simp only [List.nil_append, List.getD_eq_getElem?_getD, List.getElem?_map] at h
    cases hr : ((rowsOf P ops.toList ops.toList []).take j)[e.on]? with
    | none => rw [hr] at h; simp at h
    | some z =>
      rw [hr] at h
      refine ⟨z, ?_, by simpa using h⟩
      rw [List.getElem?_take] at hr
      split at hr
      · exact hr
      · cases hr

/-! ## what the table's check says -/
theorem allOk_get {n : Nat} {rows : List Row} : ∀ {l : List Oper} {q : List Row} {j : Nat}, allOk n rows l q j = true → ∀ {k : Nat} {o : Oper} {y : Row}, l[k]? = some o → q[k]? = some y →
    edgesOk n (j + k) o.after.toList = true ∧ guardIn o y.anc = true ∧ pairsOk y (j + k) rows 0 = true
  | [], [], j, _, k, o, y, hl, _ => by simp at hl
  | [], _ :: _, _, h, _, _, _, _, _ => by cases h
  | _ :: _, [], _, h, _, _, _, _, _ => by cases h
  | x :: l, z :: q, j, h, k, o, y, hl, hq => by
    simp only [allOk] at h
    split at h
    · cases h
    · rename_i h1
      split at h
      · cases h
      · rename_i h2
        split at h
        · rename_i h3
          cases k with
          | zero =>
            simp at hl hq; subst hl; subst hq
            exact ⟨h1, h2, h3⟩
          | succ k =>
            have := allOk_get h (k := k) (by simpa using hl) (by simpa using hq)
            rw [show j + (k + 1) = j + 1 + k by omega]
            exact this
        · cases h
theorem pairsOk_get {y : Row} {j : Nat} : ∀ {l : List Row} {k : Nat}, pairsOk y j l k = true → ∀ {i : Nat} {x : Row}, l[i]? = some x → k + i < j → pairOk (k + i) x y = true
  | [], _, _, i, x, h, _ => by simp at h
  | z :: l, k, h, i, x, hi, hlt => by
    simp only [pairsOk] at h
    split at h
    · rename_i e
      rw [beq_nat] at e
      have : k = j := by simpa using e
      omega
    · split at h
      · rename_i h1
        cases i with
        | zero => simp at hi; subst hi; exact h1
        | succ i =>
          have := pairsOk_get h (i := i) (by simpa using hi) (by omega)
          rw [show k + (i + 1) = k + 1 + i by omega]
          exact this
      · cases h
theorem pairOk_spec {i : Nat} {x y : Row} (h : pairOk i x y = true) :
    Nat.testBit y.anc i = true ∨ (apart x.dm y.nm = true ∧ apart y.dm x.nm = true ∧ (y.acts = true → x.acts = false ∧ x.news = false)) := by
  unfold pairOk at h
  split at h
  · rename_i e; exact .inl e
  · split at h
    · cases h
    · rename_i h1
      split at h
      · cases h
      · rename_i h2
        refine .inr ⟨h1, h2, fun ha => ?_⟩
        rw [ha] at h
        simp only at h
        split at h
        · cases h
        · rename_i h3
          rw [notB_eq] at h
          exact ⟨h3, by simpa using h⟩
theorem edgesOk_spec {n j : Nat} : ∀ {es : List Edge}, edgesOk n j es = true → ∀ e ∈ es, e.on < j ∨ ((∃ r, e.ground = .gcOnly r) ∧ e.on < n)
  | [], _, e, h => by simp at h
  | x :: r, h, e, he => by
    simp only [edgesOk] at h
    split at h
    · rename_i h1
      rcases List.mem_cons.1 he with rfl | he
      · left; rw [ble_nat] at h1; exact of_decide_eq_true h1
      · exact edgesOk_spec h e he
    · split at h
      · rename_i hg
        split at h
        · rename_i h1
          rcases List.mem_cons.1 he with rfl | he
          · right; rw [ble_nat] at h1; exact ⟨⟨_, hg⟩, of_decide_eq_true h1⟩
          · exact edgesOk_spec h e he
        · cases h
      · cases h

/-- what the check of a region's table says. -/
structure Table (P : Program) (ops : Array Oper) (rows : List Row) : Prop where
  eq : rows = rowsOf P ops.toList ops.toList []
  len : rows.length = ops.size
  edge : ∀ (j : Nat) (o : Oper), ops[j]? = some o → ∀ e ∈ o.after, e.on < j ∨ ((∃ r, e.ground = .gcOnly r) ∧ e.on < ops.size)
  guard : ∀ (j : Nat) (o : Oper) (k : Nat) (w : Bool), ops[j]? = some o → o.guard = some (k, w) → Anc rows j k
  pair : ∀ (i j : Nat) (x y : Row), rows[i]? = some x → rows[j]? = some y → i < j → Anc rows j i ∨ (apart x.dm y.nm = true ∧ apart y.dm x.nm = true ∧ (y.acts = true → x.acts = false ∧ x.news = false))
  row : ∀ (j : Nat) (o : Oper), ops[j]? = some o → ∃ ms, rows[j]? = some (rowOf P ops.toList ms o)
  peel : anyDeparts ops.toList = true → peel rows (2 ^ ops.size - 1) ops.size 0 = true

theorem table_of {ops : Array Oper} (h : regionOk ops.toList (rowsOf P ops.toList ops.toList []) = true) : Table P ops (rowsOf P ops.toList ops.toList []) := by
  have hlen : (rowsOf P ops.toList ops.toList []).length = ops.size := by rw [rowsOf_length]; simp
  have hrow : ∀ j o, ops[j]? = some o → (rowsOf P ops.toList ops.toList [])[j]? = some (rowOf P ops.toList ([] ++ ((rowsOf P ops.toList ops.toList []).take j).map (·.anc)) o) :=
    fun j o ho => rowsOf_get ops.toList ops.toList [] j o (by simpa using ho)
  unfold regionOk at h
  split at h
  · cases h
  · rename_i hall
    refine ⟨rfl, hlen, fun j o ho e he => ?_, fun j o k w ho hg => ?_, fun i j x y hx hy hij => ?_, fun j o ho => ⟨_, hrow j o ho⟩, fun hd => ?_⟩
    · obtain ⟨h1, _, _⟩ := allOk_get hall (k := j) (by simpa using ho) (hrow j o ho)
      have := edgesOk_spec h1 e (by simpa using he)
      simpa using this
    · obtain ⟨_, h1, _⟩ := allOk_get hall (k := j) (by simpa using ho) (hrow j o ho)
      refine ⟨_, hrow j o ho, ?_⟩
      unfold guardIn at h1
      rw [hg] at h1
      exact h1
    · have hj : j < ops.size := by rw [← hlen]; exact (List.getElem?_eq_some_iff.1 hy).1
      obtain ⟨_, _, h1⟩ := allOk_get hall (k := j) (o := ops[j]) (by simp [hj]) hy
      have := pairsOk_get h1 hx (by omega)
      rw [Nat.zero_add] at this
      rcases pairOk_spec this with h | h
      · exact .inl ⟨y, hy, h⟩
      · exact .inr h
    · rw [hd] at h
      simpa using h

end
end Go.Sx
