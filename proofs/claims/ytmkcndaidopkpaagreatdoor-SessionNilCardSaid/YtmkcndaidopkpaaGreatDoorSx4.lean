/- What the machine's values and heap say of the model's: the relations, and what keeps them. -/
import Derived.Test.YtmkcndaidopkpaaGreatDoorSx3
import Derived.Calls
namespace Go.Sx
noncomputable section

/-- Where an object lies: its block, the place in it, how many cells the block has; of a table: the block itself. -/
structure Pl where
  blk : Nat
  off : Nat
  row : Nat
  tab : Option Obj

abbrev Em := K → Option Pl

def flatV : Value → Bool
  | .agg _ => false
  | .tuple _ => false
  | _ => true

mutual
inductive VRel (φ : Em) : AV → Value → Prop
  | undef (v : Value) : VRel φ .undef v
  | any (v : Value) : flatV v = true → VRel φ .any v
  | bool (b : Bool) : VRel φ (.bool b) (.bool b)
  | int (k : IntKind) (n : Int) : VRel φ (.int k n) (.int k n)
  | float (k : FloatKind) (n : Nat) : VRel φ (.float k n) (.float k n)
  | complex (k : FloatKind) (m n : Nat) : VRel φ (.complex k m n) (.complex k m n)
  | str (s : ByteArray) : VRel φ (.str (bytesOf s)) (.string s)
  | nilp : VRel φ .nilp (.pointer none)
  | ptr (x : K) (off : Nat) (p : Pl) : φ x = some p → VRel φ (.ptr x off) (.pointer (some ⟨p.blk, p.off + off, none⟩))
  | nilsl : VRel φ .nilsl (.slice none 0 0)
  | slx (x : K) (off len cap es : Nat) (p : Pl) : φ x = some p → VRel φ (.sl x off len cap es false) (.slice (some ⟨p.blk, p.off + off, none⟩) len cap)
  | slo (x : K) (off len cap es : Nat) (p : Pl) (cap' : Nat) : φ x = some p → cap ≤ cap' → p.off + off + cap' * es = p.row →
      VRel φ (.sl x off len cap es true) (.slice (some ⟨p.blk, p.off + off, none⟩) len cap')
  | esl (a : Addr) (cap : Nat) : VRel φ .esl (.slice (some a) 0 cap)
  | nilm : VRel φ .nilm (.map none)
  | mapv (x : K) (p : Pl) : φ x = some p → VRel φ (.mapv x) (.map (some p.blk))
  | func (fn : Fn) (a b : List AV) (as bs : Array Value) : VRels φ a as.toList → VRels φ b bs.toList → VRel φ (.func fn a b) (.func fn as bs)
  | yieldf (x : K) (p : Pl) : φ x = some p → VRel φ (.yieldf x) (.func (.yield p.blk) #[] #[])
  | nilf : VRel φ .nilf .nilFunc
  | iface (t : TypeId) (a : AV) (v : Value) : VRel φ a v → VRel φ (.iface t a) (.iface t v)
  | nili : VRel φ .nili .nilIface
  | agg (l : List AV) (cs : Array Value) : VRels φ l cs.toList → VRel φ (.agg l) (.agg cs)
  | tup (l : List AV) (cs : Array Value) : VRels φ l cs.toList → VRel φ (.tup l) (.tuple cs)
  | rng (k : IntKind) (lo hi m r x : Nat) : lo ≤ x → x ≤ hi → x % m = r → VRel φ (.rng k lo hi m r) (.int k (.ofNat x))
  | anyb (b : Bool) : VRel φ .anyb (.bool b)
inductive VRels (φ : Em) : List AV → List Value → Prop
  | nil : VRels φ [] []
  | cons (a : AV) (v : Value) (l : List AV) (vs : List Value) : VRel φ a v → VRels φ l vs → VRels φ (a :: l) (v :: vs)
end

def Le (φ ψ : Em) : Prop := ∀ x p, φ x = some p → ψ x = some p
theorem Le.refl (φ : Em) : Le φ φ := fun _ _ h => h
theorem Le.trans {φ ψ χ : Em} (h : Le φ ψ) (h' : Le ψ χ) : Le φ χ := fun x p e => h' x p (h x p e)

mutual
theorem VRel.mono {φ ψ : Em} (h : Le φ ψ) : ∀ {a : AV} {v : Value}, VRel φ a v → VRel ψ a v
  | _, _, .undef v => .undef v
  | _, _, .any v hv => .any v hv
  | _, _, .bool b => .bool b
  | _, _, .int k n => .int k n
  | _, _, .float k n => .float k n
  | _, _, .complex k m n => .complex k m n
  | _, _, .str s => .str s
  | _, _, .nilp => .nilp
  | _, _, .ptr x o p hp => .ptr x o p (h x p hp)
  | _, _, .nilsl => .nilsl
  | _, _, .slx x o n c s p hp => .slx x o n c s p (h x p hp)
  | _, _, .slo x o n c s p c' hp h1 h2 => .slo x o n c s p c' (h x p hp) h1 h2
  | _, _, .esl a c => .esl a c
  | _, _, .nilm => .nilm
  | _, _, .mapv x p hp => .mapv x p (h x p hp)
  | _, _, .func f a b as bs h1 h2 => .func f a b as bs (VRels.mono h h1) (VRels.mono h h2)
  | _, _, .yieldf x p hp => .yieldf x p (h x p hp)
  | _, _, .nilf => .nilf
  | _, _, .iface t a v h1 => .iface t a v (VRel.mono h h1)
  | _, _, .nili => .nili
  | _, _, .agg l cs h1 => .agg l cs (VRels.mono h h1)
  | _, _, .tup l cs h1 => .tup l cs (VRels.mono h h1)
  | _, _, .rng k lo hi m r x h1 h2 h3 => .rng k lo hi m r x h1 h2 h3
  | _, _, .anyb b => .anyb b
theorem VRels.mono {φ ψ : Em} (h : Le φ ψ) : ∀ {l : List AV} {vs : List Value}, VRels φ l vs → VRels ψ l vs
  | _, _, .nil => .nil
  | _, _, .cons a v l vs h1 h2 => .cons a v l vs (VRel.mono h h1) (VRels.mono h h2)
end

/-! ## lists of values -/
theorem VRels.length {φ : Em} : ∀ {l : List AV} {vs : List Value}, VRels φ l vs → vs.length = l.length
  | _, _, .nil => rfl
  | _, _, .cons _ _ _ _ _ h => by simp [VRels.length h]
theorem VRels.get {φ : Em} : ∀ {l : List AV} {vs : List Value}, VRels φ l vs → ∀ {k : Nat} {a : AV}, l[k]? = some a → ∃ v, vs[k]? = some v ∧ VRel φ a v
  | _, _, .nil, k, a, e => by simp at e
  | _, _, .cons _ v _ _ h h', 0, a, e => by simp at e; subst e; exact ⟨v, rfl, h⟩
  | _, _, .cons _ _ _ _ h h', k + 1, a, e => by simp at e; obtain ⟨u, hu, hr⟩ := VRels.get h' e; exact ⟨u, by simpa using hu, hr⟩
theorem VRels.of_get {φ : Em} : ∀ {l : List AV} {vs : List Value}, vs.length = l.length → (∀ (k : Nat) (a : AV), l[k]? = some a → ∃ v, vs[k]? = some v ∧ VRel φ a v) → VRels φ l vs
  | [], [], _, _ => .nil
  | [], _ :: _, h, _ => by simp at h
  | _ :: _, [], h, _ => by simp at h
  | a :: l, v :: vs, h, hg => by
    refine .cons _ _ _ _ ?_ (VRels.of_get (by simpa using h) fun k b e => ?_)
    · obtain ⟨u, hu, hr⟩ := hg 0 a rfl
      simp at hu; subst hu; exact hr
    · obtain ⟨u, hu, hr⟩ := hg (k + 1) b (by simpa using e)
      exact ⟨u, by simpa using hu, hr⟩
theorem VRels.append {φ : Em} : ∀ {l m : List AV} {vs us : List Value}, VRels φ l vs → VRels φ m us → VRels φ (l ++ m) (vs ++ us)
  | _, _, _, _, .nil, h => h
  | _, _, _, _, .cons a v l vs h1 h2, h => .cons a v _ _ h1 (VRels.append h2 h)
theorem VRels.map {φ : Em} {α : Type} {f : α → AV} {g : α → Value} : ∀ {l : List α}, (∀ x ∈ l, VRel φ (f x) (g x)) → VRels φ (l.map f) (l.map g)
  | [], _ => .nil
  | x :: r, h => .cons _ _ _ _ (h x (by simp)) (VRels.map fun y hy => h y (by simp [hy]))
theorem VRels.take {φ : Em} {l : List AV} {vs : List Value} (h : VRels φ l vs) (n : Nat) : VRels φ (l.take n) (vs.take n) := by
  induction n generalizing l vs with
  | zero => simp; exact .nil
  | succ n ih => cases h with
    | nil => simp; exact .nil
    | cons a v l vs h1 h2 => simp; exact .cons _ _ _ _ h1 (ih h2)
theorem VRels.drop {φ : Em} {l : List AV} {vs : List Value} (h : VRels φ l vs) (n : Nat) : VRels φ (l.drop n) (vs.drop n) := by
  induction n generalizing l vs with
  | zero => simpa using h
  | succ n ih => cases h with
    | nil => simp; exact .nil
    | cons a v l vs h1 h2 => simpa using ih h2

/-! ## constants -/
theorem ofFlat_rel (φ : Em) (v : Value) : VRel φ (ofFlat v) v := by
  unfold ofFlat
  split <;> first | exact .bool _ | exact .int _ _ | exact .float _ _ | exact .complex _ _ _ | exact .str _ | exact .nilp | exact .nilsl | exact .nilm | exact .nilf | exact .nili | exact .undef _
theorem map_flat_rel (φ : Em) : ∀ l : List Value, VRels φ (l.map ofFlat) l
  | [] => .nil
  | v :: r => .cons _ _ _ _ (ofFlat_rel φ v) (map_flat_rel φ r)
theorem ofConst_rel (φ : Em) (v : Value) : VRel φ (ofConst v) v := by
  unfold ofConst
  split
  · exact .agg _ _ (map_flat_rel φ _)
  · exact .tup _ _ (map_flat_rel φ _)
  · exact .iface _ _ _ (ofFlat_rel φ _)
  · exact ofFlat_rel φ _

/-! ## frames -/
def env (T : FrP) (L : Loc) (t : Tr AV) (i : Nat) : AV := if T.thr ≤ i then L.find i else orUndef (Tr.get (kOf i) t)

structure TRel (φ : Em) (T : FrP) (L : Loc) (t : Tr AV) (tmps : Array Value) : Prop where
  size : T.n ≤ tmps.size
  rel : ∀ i, VRel φ (env T L t i) (tmps.getD i undef)
  out : ∀ i, T.n ≤ i → env T L t i = .undef

theorem TRel.mono {φ ψ : Em} {T : FrP} {L : Loc} {t : Tr AV} {tmps : Array Value} (h : Le φ ψ) (r : TRel φ T L t tmps) : TRel ψ T L t tmps :=
  ⟨r.size, fun i => (r.rel i).mono h, r.out⟩

theorem evo_l (i : Nat) (L : Loc) (t : Tr AV) : evo (.l i) L t = L.find i := rfl
theorem evo_v (k : K) (L : Loc) (t : Tr AV) : evo (.v k) L t = orUndef (Tr.get k t) := rfl
theorem evo_c (a : AV) (L : Loc) (t : Tr AV) : evo (.c a) L t = a := rfl
theorem evo_tmp (P : Program) (T : FrP) (i : Nat) (L : Loc) (t : Tr AV) : evo (opd P T (.tmp i)) L t = env T L t i := by
  simp only [opd, env, ble_nat]
  by_cases h : T.thr ≤ i <;> simp [h, evo_l, evo_v]

def Glob (P : Program) (φ : Em) : Prop := ∀ g, g < P.globals.size → ∃ row, φ (kOf g) = some ⟨g, 0, row, none⟩

theorem evo_rel {P : Program} {φ : Em} {T : FrP} {L : Loc} {t : Tr AV} {a : Act} (hg : Glob P φ) (r : TRel φ T L t a.tmps) (y : Operand) :
    VRel φ (evo (opd P T y) L t) (a.eval y) := by
  cases y with
  | tmp i => rw [evo_tmp]; exact r.rel i
  | const v => exact ofConst_rel φ v
  | global g =>
    unfold opd
    simp only [ble_nat]
    by_cases h : g + 1 ≤ P.globals.size
    · obtain ⟨row, hr⟩ := hg g h
      simp only [h, decide_true, evo_c]
      have := VRel.ptr (φ := φ) (kOf g) 0 _ hr
      simpa [Act.eval] using this
    · simp only [h, decide_false, evo_c]; exact .undef _
  | func f => exact .func _ _ _ _ _ .nil .nil

theorem find_nil (i : Nat) : Loc.find .nil i = .undef := rfl
theorem find_cons (j : Nat) (v : AV) (L : Loc) (i : Nat) : Loc.find (.cons j v L) i = if j = i then v else L.find i := by
  have h : Loc.find (.cons j v L) i = @Bool.rec (fun _ => AV) (L.find i) v (Nat.beq j i) := rfl
  rw [h, beq_nat]
  by_cases e : j = i <;> simp [e]

/-- the frame behind a write. -/
def putL (T : FrP) (L : Loc) (dst : Option Tmp) (v : AV) : Loc :=
  match dst with
  | some d => if d < T.n ∧ T.thr ≤ d then .cons d v L else L
  | none => L
def putT (T : FrP) (t : Tr AV) (dst : Option Tmp) (v : AV) : Tr AV :=
  match dst with
  | some d => if d < T.n ∧ d < T.thr then Tr.set (kOf d) (some v) t else t
  | none => t
theorem putD_eq (T : FrP) (v : AV) (k : Loc → Tr AV → Hp → R) (L : Loc) (t : Tr AV) (H : Hp) (dst : Option Tmp) :
    putD v k L t H (dstOf T dst) = k (putL T L dst v) (putT T t dst v) H := by
  cases dst with
  | none => rfl
  | some d =>
    unfold dstOf putL putT
    simp only [ble_nat]
    by_cases h1 : d + 1 ≤ T.n
    · have h1' : d < T.n := h1
      by_cases h2 : T.thr ≤ d
      · have h3 : ¬ d < T.thr := Nat.not_lt.2 h2
        simp [h1, h1', h2, h3, putD]
      · have h3 : d < T.thr := Nat.lt_of_not_le h2
        simp [h1, h1', h2, h3, putD]
    · have h1' : ¬ d < T.n := h1
      simp [h1, h1', putD]

theorem env_put (T : FrP) (L : Loc) (t : Tr AV) (dst : Option Tmp) (v : AV) (i : Nat) :
    env T (putL T L dst v) (putT T t dst v) i = if dst = some i ∧ i < T.n then v else env T L t i := by
  cases dst with
  | none => simp [putL, putT]
  | some d =>
    unfold env putL putT
    by_cases h1 : d < T.n
    · by_cases h2 : T.thr ≤ d
      · have h3 : ¬ d < T.thr := Nat.not_lt.2 h2
        simp only [h1, h2, h3, and_true, and_false, if_true, if_false, find_cons, Option.some.injEq]
        by_cases hd : d = i
        · subst hd; simp [h1, h2]
        · simp [hd]
      · have h3 : d < T.thr := Nat.lt_of_not_le h2
        simp only [h1, h2, h3, and_true, and_false, if_true, if_false, Option.some.injEq]
        by_cases hd : d = i
        · subst hd; simp [h1, h2, Tr.get_set_same, orUndef]
        · have hk : kOf i ≠ kOf d := fun e => hd (kOf_inj e).symm
          simp [hd, Tr.get_set_ne _ _ _ _ hk]
    · have : ¬ (d = i ∧ i < T.n) := by rintro ⟨rfl, h⟩; exact h1 h
      simp [h1, this]

theorem put_tmps (a : Act) (dst : Option Tmp) (v : Value) (i : Nat) : (a.put dst v).tmps.getD i undef = if dst = some i ∧ i < a.tmps.size then v else a.tmps.getD i undef := by
  cases dst with
  | none => simp [Act.put]
  | some d =>
    simp only [Act.put, Option.some.injEq, Array.getD_eq_getD_getElem?]
    by_cases hd : d = i
    · subst hd
      by_cases hs : d < a.tmps.size
      · simp [hs]
      · simp [hs]
    · simp [hd, Array.getElem?_setIfInBounds_ne hd]
theorem put_size (a : Act) (dst : Option Tmp) (v : Value) : (a.put dst v).tmps.size = a.tmps.size := by
  cases dst <;> simp [Act.put]
theorem put_defers' (a : Act) (dst : Option Tmp) (v : Value) : (a.put dst v).defers = a.defers := by
  cases dst <;> rfl

theorem TRel.put {φ : Em} {T : FrP} {L : Loc} {t : Tr AV} {a : Act} (r : TRel φ T L t a.tmps) (dst : Option Tmp) {v : AV} {v' : Value} (h : VRel φ v v') :
    TRel φ T (putL T L dst v) (putT T t dst v) (a.put dst v').tmps := by
  refine ⟨by rw [put_size]; exact r.size, fun i => ?_, fun i hi => ?_⟩
  · rw [env_put, put_tmps]
    by_cases h1 : dst = some i
    · by_cases h2 : i < T.n
      · have h3 : i < a.tmps.size := Nat.lt_of_lt_of_le h2 r.size
        simp [h1, h2, h3, h]
      · simp only [h1, h2, and_false, if_false, true_and]
        rw [r.out i (by omega)]
        exact .undef _
    · simp only [h1, false_and, if_false]
      exact r.rel i
  · rw [env_put]
    have : ¬ i < T.n := by omega
    simp only [this, and_false, if_false]
    exact r.out i hi

/-! ## objects and heaps -/
inductive ERel (φ : Em) : List (AV × AV × Nat) → List MapEntry → Prop
  | nil : ERel φ [] []
  | cons (k v : AV) (b : Nat) (e : MapEntry) (l : List (AV × AV × Nat)) (es : List MapEntry) : VRel φ k e.key → VRel φ v e.val → e.born = b → ERel φ l es → ERel φ ((k, v, b) :: l) (e :: es)
theorem ERel.mono {φ ψ : Em} (h : Le φ ψ) : ∀ {l : List (AV × AV × Nat)} {es : List MapEntry}, ERel φ l es → ERel ψ l es
  | _, _, .nil => .nil
  | _, _, .cons k v b e l es h1 h2 h3 h4 => .cons k v b e l es (h1.mono h) (h2.mono h) h3 (h4.mono h)

inductive ORel (φ : Em) (p : Pl) : AObj → Obj → Prop
  | cells (l : List AV) (s : Bool) (c : Array Value) (elem : TypeId) (fr : Nat × Nat) : c.size = p.row → p.off + l.length ≤ c.size →
      (∀ (k : Nat) (a : AV), l[k]? = some a → ∃ v, c[p.off + k]? = some v ∧ VRel φ a v) → (s = false → fr = (0, 0)) → (fr.1 = fr.2 ∨ c.size ≤ fr.1) → ORel φ p (.cells l s) (.cells c elem fr)
  | map (l : List (AV × AV × Nat)) (es : Array MapEntry) (clock : Nat) : ERel φ l es.toList → ORel φ p (.map l clock) (.map es clock)
  | tab (k : IntKind) (l : List (Nat × AV)) (es : Array MapEntry) (clock : Nat) : p.tab = some (.map es clock) → (l.map (·.1)).Nodup →
      (∀ e ∈ es.toList, ∃ q ∈ l, e.key = .int k (.ofNat q.1) ∧ VRel φ q.2 e.val) → (∀ q ∈ l, ∃ e ∈ es.toList, e.key = .int k (.ofNat q.1)) → ORel φ p (.tab k l) (.map es clock)
  | loop (st : LoopState) (pend : Option Code) (fn fn' : FuncId) (T : FrP) (t : Tr AV) (tmps : Array Value) (ps : Array Tmp) (as b : Code) (d : Nat) : TRel φ T .nil t tmps →
      ORel φ p (.loop st pend fn T t ps.toList as b) (.loop { state := st, pending := pend, fn := fn', tmps, params := ps, assign := as, body := b, defers := d })
theorem ORel.mono {φ ψ : Em} {p : Pl} {o : AObj} {ob : Obj} (h : Le φ ψ) (r : ORel φ p o ob) : ORel ψ p o ob := by
  cases r with
  | cells l s c elem fr h1 h2 h3 h4 h5 => exact .cells l s c elem fr h1 h2 (fun k a e => let ⟨v, hv, hr⟩ := h3 k a e; ⟨v, hv, hr.mono h⟩) h4 h5
  | map l es c h1 => exact .map l es c (h1.mono h)
  | tab k l es c h1 h2 h3 h4 => exact .tab k l es c h1 h2 (fun e he => let ⟨q, hq, hk, hv⟩ := h3 e he; ⟨q, hq, hk, hv.mono h⟩) h4
  | loop st pend fn fn' T t tmps ps as b d h1 => exact .loop st pend fn fn' T t tmps ps as b d (h1.mono h)

structure HRel (P : Program) (φ : Em) (H : Hp) (w : World) : Prop where
  obj : ∀ x o, H.get x = some o → ∃ p ob, φ x = some p ∧ w.heap[p.blk]? = some ob ∧ ORel φ p o ob
  inj : ∀ x y o o' p q, H.get x = some o → H.get y = some o' → φ x = some p → φ y = some q → p.blk = q.blk → x = y
  dom : ∀ x p, φ x = some p → x.toNat < H.next.toNat
  glob : Glob P φ

/-- does a heap's object lie in a block? -/
def Lies (φ : Em) (H : Hp) (b : Nat) : Prop := ∃ x o p, H.get x = some o ∧ φ x = some p ∧ p.blk = b

/-- of what type are the elements of a block of cells. -/
def elemOf (w : World) (b : Nat) : Option TypeId := match w.heap[b]? with | some (.cells _ e _) => some e | _ => none
def Keeps (w w' : World) : Prop := ∀ b e, elemOf w b = some e → elemOf w' b = some e
theorem Keeps.of_eq {w w' : World} (h : w'.heap = w.heap) : Keeps w w' := fun b e he => by unfold elemOf at *; rw [h]; exact he
theorem elemOf_lt {w : World} {b : Nat} {e : TypeId} (h : elemOf w b = some e) : b < w.heap.size := by
  unfold elemOf at h
  split at h
  · rename_i hb; exact (Array.getElem?_eq_some_iff.1 hb).1
  · cases h

/-- what a run leaves as it was, and how it goes on. -/
structure Ext (φ φ' : Em) (H H' : Hp) (w w' : World) : Prop where
  le : Le φ φ'
  next : H.next.toNat ≤ H'.next.toNat
  size : w.heap.size ≤ w'.heap.size
  frame : ∀ b, b < w.heap.size → ¬ Lies φ H b → w'.heap[b]? = w.heap[b]?
  lies : ∀ b, Lies φ' H' b → Lies φ H b ∨ w.heap.size ≤ b
  dom : ∀ x p, φ' x = some p → φ x = some p ∨ H.next.toNat ≤ x.toNat
  os : w'.os = w.os
  output : w'.output = w.output
  tape : w'.tape = w.tape
  keeps : Keeps w w'

theorem Ext.refl (φ : Em) (H : Hp) (w : World) : Ext φ φ H H w w :=
  ⟨Le.refl φ, Nat.le_refl _, Nat.le_refl _, fun _ _ _ => rfl, fun _ h => .inl h, fun _ _ h => .inl h, rfl, rfl, rfl, fun _ _ h => h⟩
theorem Ext.trans {φ φ' φ'' : Em} {H H' H'' : Hp} {w w' w'' : World} (h : Ext φ φ' H H' w w') (h' : Ext φ' φ'' H' H'' w' w'') : Ext φ φ'' H H'' w w'' where
  le := h.le.trans h'.le
  next := Nat.le_trans h.next h'.next
  size := Nat.le_trans h.size h'.size
  frame := fun b hb hn => by
    rw [h'.frame b (Nat.lt_of_lt_of_le hb h.size) (fun hl => (h.lies b hl).elim hn (fun hs => absurd hb (by omega)))]
    exact h.frame b hb hn
  lies := fun b hb => (h'.lies b hb).elim (fun hl => h.lies b hl) (fun hs => .inr (Nat.le_trans h.size hs))
  dom := fun x p hp => (h'.dom x p hp).elim (fun hl => h.dom x p hl) (fun hs => .inr (Nat.le_trans h.next hs))
  os := h'.os.trans h.os
  output := h'.output.trans h.output
  tape := h'.tape.trans h.tape
  keeps := fun b e he => h'.keeps b e (h.keeps b e he)

/-- the world, but for how often it was drawn. -/
def Same (w w' : World) : Prop := w'.heap = w.heap ∧ w'.os = w.os ∧ w'.output = w.output ∧ w'.tape = w.tape
theorem Same.refl (w : World) : Same w w := ⟨rfl, rfl, rfl, rfl⟩
theorem Same.trans {w w' w'' : World} (h : Same w w') (h' : Same w' w'') : Same w w'' := ⟨h'.1.trans h.1, h'.2.1.trans h.2.1, h'.2.2.1.trans h.2.2.1, h'.2.2.2.trans h.2.2.2⟩
theorem Same.ext {w w' : World} (h : Same w w') (φ : Em) (H : Hp) : Ext φ φ H H w w' :=
  ⟨Le.refl φ, Nat.le_refl _, by rw [h.1]; exact Nat.le_refl _, fun _ _ _ => by rw [h.1], fun _ h => .inl h, fun _ _ h => .inl h, h.2.1, h.2.2.1, h.2.2.2, .of_eq h.1⟩
theorem HRel.same {P : Program} {φ : Em} {H : Hp} {w w' : World} (r : HRel P φ H w) (h : Same w w') : HRel P φ H w' :=
  ⟨by rw [h.1]; exact r.obj, r.inj, r.dom, r.glob⟩

/-- one object is another one now; its block is as it must be. -/
theorem HRel.put {P : Program} {φ : Em} {H : Hp} {w w' : World} {x : K} {o o' : AObj} {p : Pl} {ob : Obj} (r : HRel P φ H w) (hx : H.get x = some o) (hp : φ x = some p)
    (hb : w'.heap[p.blk]? = some ob) (hr : ORel φ p o' ob) (hf : ∀ b, b ≠ p.blk → w'.heap[b]? = w.heap[b]?) : HRel P φ (H.put x o') w' where
  obj := fun y u hy => by
    by_cases e : y = x
    · subst e
      rw [Hp.get_put_same] at hy
      cases hy
      exact ⟨p, ob, hp, hb, hr⟩
    · rw [Hp.get_put_ne _ _ e] at hy
      obtain ⟨q, oq, hq, hw, hr⟩ := r.obj y u hy
      refine ⟨q, oq, hq, ?_, hr⟩
      rw [hf _ (fun eb => e (r.inj y x u o q p hy hx hq hp eb))]
      exact hw
  inj := fun y z u u' q q' hy hz hq hq' e => by
    have gy : ∃ u, H.get y = some u := by
      by_cases ey : y = x
      · subst ey; exact ⟨o, hx⟩
      · rw [Hp.get_put_ne _ _ ey] at hy; exact ⟨u, hy⟩
    have gz : ∃ u, H.get z = some u := by
      by_cases ez : z = x
      · subst ez; exact ⟨o, hx⟩
      · rw [Hp.get_put_ne _ _ ez] at hz; exact ⟨u', hz⟩
    obtain ⟨_, gy⟩ := gy
    obtain ⟨_, gz⟩ := gz
    exact r.inj y z _ _ q q' gy gz hq hq' e
  dom := r.dom
  glob := r.glob

theorem Ext.put {φ : Em} {H : Hp} {w w' : World} {x : K} {o o' : AObj} {p : Pl} (hx : H.get x = some o) (hp : φ x = some p)
    (hs : w'.heap.size = w.heap.size) (hf : ∀ b, b ≠ p.blk → w'.heap[b]? = w.heap[b]?) (h1 : w'.os = w.os) (h2 : w'.output = w.output) (h3 : w'.tape = w.tape)
    (hk : ∀ e, elemOf w p.blk = some e → elemOf w' p.blk = some e) : Ext φ φ H (H.put x o') w w' where
  le := Le.refl φ
  next := Nat.le_refl _
  size := by rw [hs]; exact Nat.le_refl _
  frame := fun b _ hn => hf b (fun e => hn ⟨x, o, p, hx, hp, e.symm⟩)
  lies := fun b ⟨y, u, q, hy, hq, e⟩ => by
    by_cases ey : y = x
    · subst ey; exact .inl ⟨y, o, q, hx, hq, e⟩
    · rw [Hp.get_put_ne _ _ ey] at hy; exact .inl ⟨y, u, q, hy, hq, e⟩
  dom := fun _ _ h => .inl h
  os := h1
  output := h2
  tape := h3
  keeps := fun b e he => by
    by_cases eb : b = p.blk
    · subst eb; exact hk e he
    · unfold elemOf at *; rw [hf b eb]; exact he

/-- the map of places with one name more. -/
def Em.with (φ : Em) (x : K) (p : Pl) : Em := fun y => if y = x then some p else φ y
theorem Em.with_same (φ : Em) (x : K) (p : Pl) : φ.with x p x = some p := by simp [Em.with]
theorem Em.with_ne (φ : Em) {x y : K} (p : Pl) (h : y ≠ x) : φ.with x p y = φ y := by simp [Em.with, h]
theorem Em.le_with (φ : Em) (x : K) (p : Pl) (h : φ x = none) : Le φ (φ.with x p) := fun y q e => by
  by_cases ey : y = x
  · subst ey; rw [h] at e; cases e
  · rw [Em.with_ne _ _ ey]; exact e

theorem HRel.none_next {P : Program} {φ : Em} {H : Hp} {w : World} (r : HRel P φ H w) : φ H.next = none := by
  cases h : φ H.next with
  | none => rfl
  | some p => exact absurd (r.dom _ _ h) (Nat.lt_irrefl _)
theorem HRel.get_next {P : Program} {φ : Em} {H : Hp} {w : World} (r : HRel P φ H w) : H.get H.next = none := by
  cases h : H.get H.next with
  | none => rfl
  | some o =>
    obtain ⟨p, _, hp, _⟩ := r.obj _ _ h
    rw [r.none_next] at hp; cases hp

/-- a new object at a name that had no place. -/
theorem HRel.add {P : Program} {φ : Em} {H : Hp} {w w' : World} {x : K} {o : AObj} {p : Pl} {ob : Obj} (r : HRel P φ H w) (hx : φ x = none) (hlt : x.toNat < H.next.toNat ∨ x = H.next)
    (hb : w'.heap[p.blk]? = some ob) (hr : ORel (φ.with x p) p o ob) (hnew : ∀ y u q, H.get y = some u → φ y = some q → q.blk ≠ p.blk) (hf : ∀ b, b ≠ p.blk → w'.heap[b]? = w.heap[b]?)
    (N : K) (hN : N.toNat = max H.next.toNat (x.toNat + 1)) :
    HRel P (φ.with x p) ⟨Tr.set x (some o) H.objs, N⟩ w' where
  obj := fun y u hy => by
    by_cases e : y = x
    · subst e
      have : (⟨Tr.set y (some o) H.objs, N⟩ : Hp).get y = some o := Tr.get_set_same _ _ _
      rw [this] at hy; cases hy
      exact ⟨p, ob, Em.with_same _ _ _, hb, hr⟩
    · have : (⟨Tr.set x (some o) H.objs, N⟩ : Hp).get y = H.get y := Tr.get_set_ne _ _ _ _ e
      rw [this] at hy
      obtain ⟨q, oq, hq, hw, hr'⟩ := r.obj y u hy
      exact ⟨q, oq, by rw [Em.with_ne _ _ e]; exact hq, by rw [hf _ (hnew y u q hy hq)]; exact hw, hr'.mono (Em.le_with φ x p hx)⟩
  inj := fun y z u u' q q' hy hz hq hq' e => by
    have g : ∀ y, y ≠ x → (⟨Tr.set x (some o) H.objs, N⟩ : Hp).get y = H.get y := fun y hy => Tr.get_set_ne _ _ _ _ hy
    by_cases ey : y = x
    · by_cases ez : z = x
      · rw [ey, ez]
      · subst ey
        rw [Em.with_same] at hq; cases hq
        rw [Em.with_ne _ _ ez] at hq'
        rw [g z ez] at hz
        exact absurd e.symm (hnew z u' q' hz hq')
    · by_cases ez : z = x
      · subst ez
        rw [Em.with_same] at hq'; cases hq'
        rw [Em.with_ne _ _ ey] at hq
        rw [g y ey] at hy
        exact absurd e (hnew y u q hy hq)
      · rw [Em.with_ne _ _ ey] at hq
        rw [Em.with_ne _ _ ez] at hq'
        rw [g y ey] at hy
        rw [g z ez] at hz
        exact r.inj y z u u' q q' hy hz hq hq' e
  dom := fun y q hq => by
    show y.toNat < N.toNat
    rw [hN]
    by_cases ey : y = x
    · subst ey; omega
    · rw [Em.with_ne _ _ ey] at hq
      have := r.dom y q hq
      omega
  glob := fun g hg => by
    obtain ⟨row, h⟩ := r.glob g hg
    exact ⟨row, Em.le_with φ x p hx _ _ h⟩

theorem Ext.add {φ : Em} {H : Hp} {w w' : World} {x : K} {o : AObj} {p : Pl} (hx : φ x = none) (hgx : H.get x = none) (hdom : H.next.toNat ≤ x.toNat) (hb : w.heap.size ≤ p.blk)
    (hs : w.heap.size ≤ w'.heap.size) (hf : ∀ b, b < w.heap.size → w'.heap[b]? = w.heap[b]?) (h1 : w'.os = w.os) (h2 : w'.output = w.output) (h3 : w'.tape = w.tape)
    (N : K) (hN : H.next.toNat ≤ N.toNat) : Ext φ (φ.with x p) H ⟨Tr.set x (some o) H.objs, N⟩ w w' where
  le := Em.le_with φ x p hx
  next := hN
  size := hs
  frame := fun b hb _ => hf b hb
  lies := fun b ⟨y, u, q, hy, hq, e⟩ => by
    by_cases ey : y = x
    · subst ey
      rw [Em.with_same] at hq; cases hq
      right; omega
    · have : (⟨Tr.set x (some o) H.objs, N⟩ : Hp).get y = H.get y := Tr.get_set_ne _ _ _ _ ey
      rw [this] at hy
      rw [Em.with_ne _ _ ey] at hq
      exact .inl ⟨y, u, q, hy, hq, e⟩
  dom := fun y q hq => by
    by_cases ey : y = x
    · subst ey; exact .inr hdom
    · rw [Em.with_ne _ _ ey] at hq; exact .inl hq
  os := h1
  output := h2
  tape := h3
  keeps := fun b e he => by have hl := elemOf_lt he; unfold elemOf at *; rw [hf b hl]; exact he

/-- an object is not known any more. -/
theorem HRel.kill {P : Program} {φ : Em} {H : Hp} {w : World} (r : HRel P φ H w) (x : K) : HRel P φ (H.kill x) w where
  obj := fun y u hy => by
    by_cases e : y = x
    · subst e; rw [Hp.get_kill_same] at hy; cases hy
    · rw [Hp.get_kill_ne _ e] at hy; exact r.obj y u hy
  inj := fun y z u u' q q' hy hz hq hq' e => by
    have g : ∀ y u, (H.kill x).get y = some u → H.get y = some u := fun y u h => by
      by_cases e : y = x
      · subst e; rw [Hp.get_kill_same] at h; cases h
      · rwa [Hp.get_kill_ne _ e] at h
    exact r.inj y z u u' q q' (g y u hy) (g z u' hz) hq hq' e
  dom := r.dom
  glob := r.glob
theorem Ext.kill (φ : Em) (H : Hp) (w : World) (x : K) : Ext φ φ H (H.kill x) w w where
  le := Le.refl φ
  next := Nat.le_refl _
  size := Nat.le_refl _
  frame := fun _ _ _ => rfl
  lies := fun b ⟨y, u, q, hy, hq, e⟩ => by
    by_cases ey : y = x
    · subst ey; rw [Hp.get_kill_same] at hy; cases hy
    · rw [Hp.get_kill_ne _ ey] at hy; exact .inl ⟨y, u, q, hy, hq, e⟩
  dom := fun _ _ h => .inl h
  os := rfl
  output := rfl
  tape := rfl
  keeps := fun _ _ h => h

end
end Go.Sx
