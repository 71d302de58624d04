/- A drawn region, in any order that its table allows: what holds behind each operation. -/
import Derived.Test.YtmkcndaidopkpaaGreatDoorSx22
namespace Go.Sx
noncomputable section
variable {P : Program}

/-- the objects that a relation knows. -/
structure GRel (P : Program) (φ : Em) (G : K → AObj → Prop) (N : K) (w : World) : Prop where
  obj : ∀ x o, G x o → ∃ p ob, φ x = some p ∧ w.heap[p.blk]? = some ob ∧ ORel φ p o ob
  inj : ∀ x y o o' p q, G x o → G y o' → φ x = some p → φ y = some q → p.blk = q.blk → x = y
  dom : ∀ x p, φ x = some p → x.toNat < N.toNat
  glob : Glob P φ
theorem GRel.heap {φ : Em} {G : K → AObj → Prop} {N : K} {w : World} (r : GRel P φ G N w) {H : Hp} (h : ∀ x o, H.get x = some o → G x o) (hn : H.next = N) : HRel P φ H w :=
  ⟨fun x o hx => r.obj x o (h x o hx), fun x y o o' p q hx hy => r.inj x y o o' p q (h x o hx) (h y o' hy), hn ▸ r.dom, r.glob⟩
theorem GRel.sub {φ : Em} {G G' : K → AObj → Prop} {N N' : K} {w w' : World} (r : GRel P φ G N w) (h : ∀ x o, G' x o → G x o) (hw : w'.heap = w.heap) (hn : N' = N) : GRel P φ G' N' w' :=
  ⟨fun x o hx => by rw [hw]; exact r.obj x o (h x o hx), fun x y o o' p q hx hy => r.inj x y o o' p q (h x o hx) (h y o' hy), hn ▸ r.dom, r.glob⟩

def LiesG (φ : Em) (G : K → AObj → Prop) (b : Nat) : Prop := ∃ x o q, G x o ∧ φ x = some q ∧ q.blk = b
structure ExtG (φ φ' : Em) (H : Hp) (G : K → AObj → Prop) (w w' : World) : Prop where
  le : Le φ φ'
  size : w.heap.size ≤ w'.heap.size
  frame : ∀ b, b < w.heap.size → ¬ Lies φ H b → w'.heap[b]? = w.heap[b]?
  lies : ∀ b, LiesG φ' G b → Lies φ H b ∨ w.heap.size ≤ b
  dom : ∀ x p, φ' x = some p → φ x = some p ∨ H.next.toNat ≤ x.toNat
  os : w'.os = w.os
  output : w'.output = w.output
  tape : w'.tape = w.tape
  keeps : Keeps w w'
theorem ExtG.sub {φ φ' : Em} {H : Hp} {G G' : K → AObj → Prop} {w w' w'' : World} (e : ExtG φ φ' H G w w') (h : ∀ x o, G' x o → G x o) (s : Same w' w'') : ExtG φ φ' H G' w w'' where
  le := e.le
  size := by rw [s.1]; exact e.size
  frame := fun b hb hn => by rw [s.1]; exact e.frame b hb hn
  lies := fun b ⟨x, o, q, hx, hq, hb⟩ => e.lies b ⟨x, o, q, h x o hx, hq, hb⟩
  dom := e.dom
  os := s.2.1.trans e.os
  output := s.2.2.1.trans e.output
  tape := s.2.2.2.trans e.tape
  keeps := fun b u hu => Keeps.of_eq s.1 b u (e.keeps b u hu)

def GA (S : Nat → St) (D : Nat → Prop) (p : Nat) (x : K) (o : AObj) : Prop := (S p).H.get x = some o ∨ ∃ i, D i ∧ p ≤ i ∧ News S i x o

structure Inv (P : Program) (T : FrP) (ops : Array Oper) (rows : List Row) (S : Nat → St) (φ₀ : Em) (w₀ : World) (H₀ : Hp) (D : Nat → Prop) (p : Nat) (φ : Em) (a : Act) (w : World) : Prop where
  le : p ≤ ops.size
  bd : p = 0 ∨ ∃ i, p = i + 1 ∧ Acts rows i
  dn : ∀ i, D i → i < ops.size
  acts : ∀ i, Acts rows i → (D i ↔ i < p)
  clo : ∀ i, D i → ∀ k, Anc rows i k → D k
  size : T.n ≤ a.tmps.size
  tm : ∀ (x : Tmp) (j : Nat), j ≤ ops.size → (∀ i o, ops[i]? = some o → o.dst = some x → (D i ↔ i < j)) → VRel φ (E T S j x) (a.tmps.getD x undef)
  gr : GRel P φ (GA S D p) (S p).H.next w
  fr : ∀ i x o, i < ops.size → ¬ D i → News S i x o → φ x = none
  nx : (S 0).H.next.toNat ≤ (S p).H.next.toNat
  ex : ExtG φ₀ φ H₀ (GA S D p) w₀ w

/-- how a drawn region's run begins. -/
structure Start (T : FrP) (ops : Array Oper) (S : Nat → St) (H₀ : Hp) : Prop where
  hs : (S 0).hs = [(S 0).H]
  free : ∀ x : K, (S 0).nm.toNat ≤ x.toNat → (S 0).H.get x = none
  nm : H₀.next.toNat ≤ (S 0).nm.toNat
  nx : (S 0).nm.toNat + ops.size ≤ (S 0).H.next.toNat
  out : ∀ x, T.n ≤ x → E T S 0 x = .undef

section
variable {T : FrP} {rec : Job → Option Res} {ops : Array Oper} {rows : List Row} {S : Nat → St} {φ₀ : Em} {w₀ : World} {H₀ : Hp} {D : Nat → Prop} {p : Nat} {φ : Em} {a : Act} {w : World}

theorem env_out (cn : Canon P T rec ops rows S) (st : Start T ops S H₀) {x : Tmp} (hx : T.n ≤ x) : ∀ i, i ≤ ops.size → E T S i x = .undef
  | 0, _ => st.out x hx
  | i + 1, hi => by
    have ho : ops[i]? = some ops[i] := by simp
    obtain ⟨y, gd, g, v, _, _, _, hL, ht, _⟩ := cn.step i _ ho
    have ih := env_out cn st hx i (by omega)
    unfold E at ih ⊢
    rw [hL, ht, env_put]
    have : ¬ x < T.n := Nat.not_lt.2 hx
    simp only [this, and_false, if_false]
    exact ih

theorem news_lt (cn : Canon P T rec ops rows S) {i : Nat} (hi : i < ops.size) {x : K} {o : AObj} (h : News S i x o) : (S 0).nm.toNat ≤ x.toNat ∧ x.toNat < (S 0).nm.toNat + ops.size := by
  have := nm_mono cn i 0 (by omega)
  rw [Nat.zero_add] at this
  rw [← h.1]
  omega
theorem news_le (cn : Canon P T rec ops rows S) {i j : Nat} (hij : i ≤ j) (hj : j < ops.size) {x : K} {o : AObj} (h : News S j x o) : (S i).nm.toNat ≤ x.toNat ∧ x.toNat ≤ (S i).nm.toNat + (j - i) := by
  have := nm_mono cn (j - i) i (by omega)
  rw [show i + (j - i) = j by omega] at this
  rw [← h.1]
  exact this
theorem news_ne (cn : Canon P T rec ops rows S) {i j : Nat} (hi : i < ops.size) (hj : j < ops.size) {x y : K} {o u : AObj} (h : News S i x o) (h' : News S j y u) (hne : i ≠ j) : x ≠ y := by
  rintro rfl
  rcases Nat.lt_or_gt_of_ne hne with hlt | hlt
  · have := news_le cn (i := i + 1) (j := j) (by omega) hj h'
    rw [h.2.1, K.toNat_succ, h.1] at this; omega
  · have := news_le cn (i := j + 1) (j := i) (by omega) hi h
    rw [h'.2.1, K.toNat_succ, h'.1] at this; omega

/-- those that write what an operation names are behind it or ahead of it. -/
theorem writers (tb : Table P ops rows) (inv : Inv P T ops rows S φ₀ w₀ H₀ D p φ a w) {j : Nat} {y : Row} (hy : rows[j]? = some y) (hnD : ¬ D j) (hanc : ∀ k, Anc rows j k → D k) {x : Tmp} (hx : Nat.testBit y.nm x = true) :
    ∀ i o, ops[i]? = some o → o.dst = some x → (D i ↔ i < j) := by
  intro i o ho hd
  obtain ⟨ms, hrow⟩ := tb.row i o ho
  have hdm : Nat.testBit (rowOf P ops.toList ms o).dm x = true := by
    show Nat.testBit (bit o.dst) x = true
    rw [hd, bit_spec]; simp
  rcases Nat.lt_trichotomy i j with h | h | h
  · rcases tb.pair i j _ y hrow hy h with hA | ⟨h1, _⟩
    · simp [hanc i hA, h]
    · have := apart_spec h1 x hdm
      rw [this] at hx; cases hx
  · subst h; simp [hnD]
  · rcases tb.pair j i y _ hy hrow h with hA | ⟨_, h2, _⟩
    · have : ¬ D i := fun hD => hnD (inv.clo i hD j hA)
      simp [this]; omega
    · have := apart_spec h2 x hdm
      rw [this] at hx; cases hx

theorem nm_dst {all : List Oper} {ms : List Nat} {o : Oper} {x : Tmp} (h : o.dst = some x) : Nat.testBit (rowOf P all ms o).nm x = true := by
  show Nat.testBit (Nat.lor (Nat.lor (bit o.dst) (tmask o.op.operands.toList)) (gmask all o)) x = true
  rw [h, testBit_lor, testBit_lor, bit_spec]; simp
theorem nm_opd {all : List Oper} {ms : List Nat} {o : Oper} {x : Tmp} (h : .tmp x ∈ o.op.operands) : Nat.testBit (rowOf P all ms o).nm x = true := by
  show Nat.testBit (Nat.lor (Nat.lor (bit o.dst) (tmask o.op.operands.toList)) (gmask all o)) x = true
  rw [testBit_lor, testBit_lor, tmask_spec (by simpa using h)]; simp
theorem nm_guard {ms : List Nat} {o : Oper} {x : Tmp} {k : Nat} {v : Bool} (h : o.guard = some (k, v)) (hd : (ops[k]?).bind (·.dst) = some x) : Nat.testBit (rowOf P ops.toList ms o).nm x = true := by
  show Nat.testBit (Nat.lor (Nat.lor (bit o.dst) (tmask o.op.operands.toList)) (gmask ops.toList o)) x = true
  rw [testBit_lor]
  have : gmask ops.toList o = 2 ^ x := by
    unfold gmask
    rw [h]
    simp only [Array.getElem?_toList]
    cases hk : ops[k]? with
    | none => rw [hk] at hd; cases hd
    | some g =>
      rw [hk] at hd
      have hd : g.dst = some x := hd
      simp only [hd, bit]
  rw [this, testBit_pow]; simp

/-- what an operation's operands are, and nothing beside. -/
def only (o : Op) (ρ : Operand → AV) : Operand → AV := by
  classical
  exact fun y => if y ∈ o.operands then ρ y else .undef
theorem only_rel (tb : Table P ops rows) (inv : Inv P T ops rows S φ₀ w₀ H₀ D p φ a w) {j : Nat} {o : Oper} (ho : ops[j]? = some o) (hnD : ¬ D j) (hanc : ∀ k, Anc rows j k → D k) :
    ∀ y, VRel φ (only o.op (fun y => evo (opd P T y) (S j).L (S j).t) y) (a.eval y) := by
  intro y
  unfold only
  split
  · rename_i hm
    cases y with
    | tmp i =>
      show VRel φ (evo (opd P T (.tmp i)) (S j).L (S j).t) _
      rw [evo_tmp]
      obtain ⟨ms, hrow⟩ := tb.row j o ho
      exact inv.tm i j (by have := (Array.getElem?_eq_some_iff.1 ho).1; omega) (writers tb inv hrow hnD hanc (nm_opd hm))
    | const v => exact ofConst_rel φ v
    | global g =>
      unfold opd
      simp only [ble_nat]
      by_cases h : g + 1 ≤ P.globals.size
      · obtain ⟨row, hr⟩ := inv.gr.glob g h
        simp only [h, decide_true, evo_c]
        have := VRel.ptr (φ := φ) (kOf g) 0 _ hr
        simpa [Act.eval] using this
      · simp only [h, decide_false, evo_c]; exact .undef _
    | func f => exact .func _ _ _ _ _ .nil .nil
  · exact .undef _
theorem only_eq {o : Op} {ρ : Operand → AV} {H : Hp} {x : K} {r : XR} (h : xop P ρ H x o = some r) : xop P (only o ρ) H x o = some r := by
  rw [← h]
  refine xop_congr H x o (fun y hy => ?_)
  unfold only
  rw [if_pos hy]

/-- the slots behind an operation. -/
theorem tm_put (cn : Canon P T rec ops rows S) (st : Start T ops S H₀) (inv : Inv P T ops rows S φ₀ w₀ H₀ D p φ a w) {j : Nat} {o : Oper} (ho : ops[j]? = some o) (hnD : ¬ D j) (hanc : ∀ k, Anc rows j k → D k) {v : AV} {v' : Value}
    (hL : (S (j + 1)).L = putL T (S j).L o.dst v) (ht : (S (j + 1)).t = putT T (S j).t o.dst v) {φ' : Em} (hle : Le φ φ') (hv : VRel φ' v v') :
    ∀ (x : Tmp) (i : Nat), i ≤ ops.size → (∀ k u, ops[k]? = some u → u.dst = some x → ((D k ∨ k = j) ↔ k < i)) → VRel φ' (E T S i x) ((a.put o.dst v').tmps.getD x undef) := by
  intro x i hi hw
  have hj : j < ops.size := (Array.getElem?_eq_some_iff.1 ho).1
  rw [put_tmps]
  by_cases hd : o.dst = some x
  · have hji : j < i := (hw j o ho hd).1 (.inr rfl)
    obtain ⟨ms, hrow⟩ := cn.tb.row j o ho
    have hwr := writers cn.tb inv hrow hnD hanc (nm_dst (P := P) (all := ops.toList) (ms := ms) hd)
    have hconst : E T S i x = E T S (j + 1) x := by
      have := env_const cn (x := x) (i - (j + 1)) (j + 1) (by omega) (fun k u h1 h2 hu hdu => by
        have hk := (hwr k u hu hdu)
        have := (hw k u hu hdu).2 (by omega)
        rcases this with h | h
        · have := hk.1 h; omega
        · omega)
      rw [show j + 1 + (i - (j + 1)) = i by omega] at this
      exact this
    rw [hconst]
    have he : E T S (j + 1) x = if o.dst = some x ∧ x < T.n then v else E T S j x := by
      unfold E
      rw [hL, ht, env_put]
    rw [he]
    by_cases hn : x < T.n
    · have hs : x < a.tmps.size := Nat.lt_of_lt_of_le hn inv.size
      simp only [hd, hn, hs, and_self, if_true]
      exact hv
    · have h1 : ¬ (o.dst = some x ∧ x < T.n) := fun h => hn h.2
      rw [if_neg h1, env_out cn st (Nat.le_of_not_lt hn) j (by omega)]
      exact .undef _
  · simp only [hd, false_and, if_false]
    refine (inv.tm x i hi (fun k u hu hdu => ?_)).mono hle
    have hkj : k ≠ j := by
      rintro rfl
      rw [ho] at hu; cases hu
      exact hd hdu
    have := hw k u hu hdu
    simpa [hkj] using this
end

end
end Go.Sx
