/- The run of a drawn region in the text's order: what each of its steps did. -/
import Derived.Test.YtmkcndaidopkpaaGreatDoorSx20
namespace Go.Sx
noncomputable section
variable {P : Program}

theorem putS_eq (T : FrP) (v : AV) (hs : List Hp) (ps : List Pend) (nm : K) (L : Loc) (t : Tr AV) (H : Hp) (d : Option Tmp) : putS v hs ps nm L t H (dstOf T d) = some ⟨hs, ps, nm, putL T L d v, putT T t d v, H⟩ := by
  cases d with
  | none => rfl
  | some d =>
    unfold dstOf putL putT
    simp only [ble_nat]
    by_cases h1 : d + 1 ≤ T.n
    · have h1' : d < T.n := h1
      by_cases h2 : T.thr ≤ d
      · have h3 : ¬ d < T.thr := Nat.not_lt.2 h2
        simp [h1, h1', h2, h3, putS]
      · have h3 : d < T.thr := Nat.lt_of_not_le h2
        simp [h1, h1', h2, h3, putS]
    · have h1' : ¬ d < T.n := h1
      simp [h1, h1', putS]

/-- what a step did. -/
inductive Did (P : Program) (T : FrP) (rec : Job → Option Res) (c : CI) (left : Nat) (s s' : St) (g : Bool) (v : AV) : Prop
  | actSkip : c.acts = true → g = false → v = .undef → s'.H = s.H → s'.hs = s'.H :: s.hs → s'.ps = s.ps → s'.nm = s.nm → pendOk P T s.hs.length s'.H s.ps = true → freeN s'.H left s.nm = true → Did P T rec c left s s' g v
  | act (x : XR) : c.acts = true → g = true → exec P T c.op s.L s.t s.H = some x → resX rec s.H x = some (v, s'.H) → s'.hs = s'.H :: s.hs → s'.ps = s.ps → s'.nm = s.nm → pendOk P T s.hs.length s'.H s.ps = true → freeN s'.H left s.nm = true →
      Did P T rec c left s s' g v
  | skip : c.acts = false → g = false → v = .undef → s'.H = s.H → s'.hs = s.hs → s'.ps = s.ps → s'.nm = s.nm → Did P T rec c left s s' g v
  | look (B : Hp) (r : List Hp) : c.acts = false → c.looks = true → g = true → s.hs = B :: r → exec P T c.op s.L s.t B = some (.val v) → pastOk P T c.op s.L s.t v c.first r = true →
      s'.H = s.H → s'.hs = s.hs → s'.ps = ⟨c.op, s.L, s.t, v, c.last⟩ :: s.ps → s'.nm = s.nm → Did P T rec c left s s' g v
  | pure : c.acts = false → c.looks = false → g = true → exec P T c.op s.L s.t ⟨s.H.objs, s.nm⟩ = some (.val v) → s'.H = s.H → s'.hs = s.hs → s'.ps = s.ps → s'.nm = s.nm → Did P T rec c left s s' g v
  | news (ob : AObj) : c.acts = false → c.looks = false → g = true → exec P T c.op s.L s.t ⟨s.H.objs, s.nm⟩ = some (.fresh v ob) → s'.H = s.H.put s.nm ob → s'.hs = s.hs → s'.ps = s.ps → s'.nm = s.nm.succ → Did P T rec c left s s' g v

theorem actS_some {T : FrP} {o : CI} {d : Option Tmp} {left : Nat} {s s' : St} {r : Option (AV × Hp)} (hd : o.dst = dstOf T d) (h : actS P T o left s r = some s') :
    ∃ v, r = some (v, s'.H) ∧ s'.L = putL T s.L d v ∧ s'.t = putT T s.t d v ∧ s'.hs = s'.H :: s.hs ∧ s'.ps = s.ps ∧ s'.nm = s.nm ∧ pendOk P T s.hs.length s'.H s.ps = true ∧ freeN s'.H left s.nm = true := by
  cases r with
  | none => cases h
  | some p =>
    obtain ⟨v, H'⟩ := p
    simp only [actS] at h
    split at h
    · cases h
    · rename_i h1
      split at h
      · cases h
      · rename_i h2
        rw [hd, putS_eq] at h
        cases h
        exact ⟨v, rfl, rfl, rfl, rfl, rfl, rfl, h1, h2⟩

theorem stepD_did {T : FrP} {rec : Job → Option Res} {o : CI} {d : Option Tmp} {left : Nat} {s s' : St} (hd : o.dst = dstOf T d) (h : stepD P T rec o left s = some s') :
    ∃ g v, guardSays s.L s.t o.guard = some g ∧ s'.L = putL T s.L d v ∧ s'.t = putT T s.t d v ∧ Did P T rec o left s s' g v := by
  unfold stepD at h
  split at h
  · cases h
  · rename_i hg ha
    split at h
    · rename_i x hx
      obtain ⟨v, h1, h2, h3, h4, h5, h6, h7, h8⟩ := actS_some hd h
      exact ⟨true, v, hg, h2, h3, .act x ha rfl hx h1 h4 h5 h6 h7 h8⟩
    · cases h
  · rename_i hg ha
    obtain ⟨v, h1, h2, h3, h4, h5, h6, h7, h8⟩ := actS_some hd h
    simp only [Option.some.injEq, Prod.mk.injEq] at h1
    exact ⟨false, v, hg, h2, h3, .actSkip ha rfl h1.1.symm h1.2.symm h4 h5 h6 h7 h8⟩
  · rename_i hg ha
    rw [hd, putS_eq] at h
    cases h
    exact ⟨false, .undef, hg, rfl, rfl, .skip ha rfl rfl rfl rfl rfl rfl⟩
  · rename_i hg ha hl
    unfold lookS at h
    split at h
    · cases h
    · rename_i B r hhs
      split at h
      · rename_i v hv
        split at h
        · rename_i hp
          rw [hd, putS_eq] at h
          cases h
          exact ⟨true, v, hg, rfl, rfl, .look B r ha hl rfl hhs hv hp rfl rfl rfl rfl⟩
        · cases h
      · cases h
  · rename_i hg ha hl
    unfold elseS at h
    split at h
    · rename_i v hv
      rw [hd, putS_eq] at h
      cases h
      exact ⟨true, v, hg, rfl, rfl, .pure ha hl rfl hv rfl rfl rfl rfl⟩
    · rename_i v ob hv
      rw [hd, putS_eq] at h
      cases h
      exact ⟨true, v, hg, rfl, rfl, .news ob ha hl rfl hv rfl rfl rfl rfl⟩
    · cases h

theorem runD_states {T : FrP} {rec : Job → Option Res} : ∀ {q : List CI} {s s' : St}, runD P T rec q s = some s' →
    ∃ S : Nat → St, S 0 = s ∧ S q.length = s' ∧ ∀ i c, q[i]? = some c → stepD P T rec c (q.length - 1 - i) (S i) = some (S (i + 1))
  | [], s, s', h => by cases h; exact ⟨fun _ => s, rfl, rfl, fun i c hc => by simp at hc⟩
  | c :: r, s, s', h => by
    simp only [runD] at h
    split at h
    · rename_i s₁ hs₁
      obtain ⟨S, h1, h2, h3⟩ := runD_states h
      refine ⟨fun i => match i with | 0 => s | i + 1 => S i, rfl, h2, fun i d hd => ?_⟩
      cases i with
      | zero =>
        simp at hd; subst hd
        simp only [List.length_cons, Nat.add_sub_cancel, Nat.sub_zero, h1]
        exact hs₁
      | succ i =>
        have := h3 i d (by simpa using hd)
        simp only [List.length_cons]
        rw [show r.length + 1 - 1 - (i + 1) = r.length - 1 - i by omega]
        exact this
    · cases h

theorem layD_get {T : FrP} {all : List Oper} {rows : List Row} : ∀ {l : List Oper} {ys : List Row} {i : Nat} {q : List CI}, layD P T all rows l ys i = some q → q.length = l.length ∧
    ∀ (k : Nat) (o : Oper), l[k]? = some o → ∃ y gd, ys[k]? = some y ∧ guardOf P T all o = some gd ∧ q[k]? = some ⟨gd, dstOf T o.dst, lay P T o.op, y.looks, firstOf y.anc rows 0, lastOf (i + k) rows, y.acts⟩
  | [], ys, i, q, h => by cases h; exact ⟨rfl, fun k o ho => by simp at ho⟩
  | o :: r, [], i, q, h => by cases h
  | o :: r, y :: ys, i, q, h => by
    simp only [layD] at h
    split at h
    · rename_i g z hg hz
      cases h
      obtain ⟨h1, h2⟩ := layD_get hz
      refine ⟨by simp [h1], fun k x hx => ?_⟩
      cases k with
      | zero =>
        simp at hx; subst hx
        exact ⟨y, g, rfl, hg, rfl⟩
      | succ k =>
        obtain ⟨y', gd, h3, h4, h5⟩ := h2 k x (by simpa using hx)
        refine ⟨y', gd, by simpa using h3, h4, ?_⟩
        rw [show i + (k + 1) = i + 1 + k by omega]
        simpa using h5
    · cases h

/-- the states of a drawn region's run in the text's order. -/
structure Canon (P : Program) (T : FrP) (rec : Job → Option Res) (ops : Array Oper) (rows : List Row) (S : Nat → St) : Prop where
  tb : Table P ops rows
  step : ∀ (i : Nat) (o : Oper), ops[i]? = some o → ∃ y gd g v, rows[i]? = some y ∧ guardOf P T ops.toList o = some gd ∧ guardSays (S i).L (S i).t gd = some g ∧
    (S (i + 1)).L = putL T (S i).L o.dst v ∧ (S (i + 1)).t = putT T (S i).t o.dst v ∧
    Did P T rec ⟨gd, dstOf T o.dst, lay P T o.op, y.looks, firstOf y.anc rows 0, lastOf i rows, y.acts⟩ (ops.size - 1 - i) (S i) (S (i + 1)) g v

theorem canon_of {T : FrP} {rec : Job → Option Res} {ops : Array Oper} {q : List CI} {s s' : St} (hq : layDrawn P T ops = some q) (h : runD P T rec q s = some s') :
    ∃ S, Canon P T rec ops (rowsOf P ops.toList ops.toList []) S ∧ S 0 = s ∧ S ops.size = s' := by
  unfold layDrawn layDrawn2 at hq
  split at hq
  · rename_i hok
    obtain ⟨hlen, hget⟩ := layD_get hq
    obtain ⟨S, h1, h2, h3⟩ := runD_states h
    have hlen : q.length = ops.size := by simpa using hlen
    refine ⟨S, ⟨table_of hok, fun i o ho => ?_⟩, h1, hlen ▸ h2⟩
    obtain ⟨y, gd, h4, h5, h6⟩ := hget i o (by simpa using ho)
    have h7 := h3 i _ h6
    obtain ⟨g, v, h8, h9, h10, h11⟩ := stepD_did (d := o.dst) rfl h7
    rw [hlen] at h11
    rw [Nat.zero_add] at h11
    exact ⟨y, gd, g, v, h4, h5, h8, h9, h10, h11⟩
  · cases hq

/-! ## what the states tell -/
section
variable {T : FrP} {rec : Job → Option Res} {ops : Array Oper} {rows : List Row} {S : Nat → St}

def E (T : FrP) (S : Nat → St) (i : Nat) (x : Tmp) : AV := env T (S i).L (S i).t x
def Acts (rows : List Row) (i : Nat) : Prop := ∃ y, rows[i]? = some y ∧ y.acts = true
/-- an object was made ahead. -/
def News (S : Nat → St) (i : Nat) (x : K) (o : AObj) : Prop := (S i).nm = x ∧ (S (i + 1)).nm = (S i).nm.succ ∧ (S (i + 1)).H = (S i).H.put x o

theorem env_keep (cn : Canon P T rec ops rows S) {i : Nat} (hi : i < ops.size) {x : Tmp} (h : ∀ o, ops[i]? = some o → o.dst ≠ some x) : E T S (i + 1) x = E T S i x := by
  have ho : ops[i]? = some ops[i] := by simp [hi]
  obtain ⟨y, gd, g, v, _, _, _, hL, ht, _⟩ := cn.step i _ ho
  unfold E
  rw [hL, ht, env_put]
  simp [h _ ho]
theorem env_const (cn : Canon P T rec ops rows S) {x : Tmp} : ∀ (d i : Nat), i + d ≤ ops.size → (∀ k o, i ≤ k → k < i + d → ops[k]? = some o → o.dst ≠ some x) → E T S (i + d) x = E T S i x
  | 0, _, _, _ => rfl
  | d + 1, i, h, hk => by
    rw [show i + (d + 1) = i + d + 1 by omega, env_keep cn (by omega) (fun o ho => hk _ o (by omega) (by omega) ho)]
    exact env_const cn d i (by omega) (fun k o h1 h2 ho => hk k o h1 (by omega) ho)

theorem nm_step (cn : Canon P T rec ops rows S) {i : Nat} (hi : i < ops.size) : (S (i + 1)).nm = (S i).nm ∨ (S (i + 1)).nm = (S i).nm.succ := by
  have ho : ops[i]? = some ops[i] := by simp [hi]
  obtain ⟨y, gd, g, v, _, _, _, hL, ht, hd⟩ := cn.step i _ ho
  cases hd <;> first | exact .inl ‹_› | exact .inr ‹_›
theorem nm_mono (cn : Canon P T rec ops rows S) : ∀ (d i : Nat), i + d ≤ ops.size → (S i).nm.toNat ≤ (S (i + d)).nm.toNat ∧ (S (i + d)).nm.toNat ≤ (S i).nm.toNat + d
  | 0, _, _ => ⟨Nat.le_refl _, Nat.le_refl _⟩
  | d + 1, i, h => by
    have ih := nm_mono cn d i (by omega)
    have := nm_step cn (i := i + d) (by omega)
    rw [show i + (d + 1) = i + d + 1 by omega]
    rcases this with e | e <;> rw [e]
    · omega
    · rw [K.toNat_succ]; omega

/-- between two of those that act, the heap grows by what is made ahead. -/
theorem heap_between (cn : Canon P T rec ops rows S) : ∀ (d p : Nat), p + d ≤ ops.size → (∀ k, p ≤ k → k < p + d → ¬ Acts rows k) →
    (S (p + d)).H.next = (S p).H.next ∧ ∀ x o, (S (p + d)).H.get x = some o → (S p).H.get x = some o ∨ ∃ i, p ≤ i ∧ i < p + d ∧ News S i x o
  | 0, p, _, _ => ⟨rfl, fun x o h => .inl h⟩
  | d + 1, p, h, hk => by
    obtain ⟨h1, h2⟩ := heap_between cn d p (by omega) (fun k a b => hk k a (by omega))
    have ho : ops[p + d]? = some ops[p + d] := by simp
    obtain ⟨y, gd, g, v, hy, _, _, hL, ht, hd⟩ := cn.step (p + d) _ ho
    have hna : y.acts = false := by
      cases hya : y.acts with
      | false => rfl
      | true => exact absurd ⟨y, hy, hya⟩ (hk (p + d) (by omega) (by omega))
    have weak : ∀ x o, (S (p + d)).H.get x = some o → (S p).H.get x = some o ∨ ∃ i, p ≤ i ∧ i < p + (d + 1) ∧ News S i x o := fun x o hx => by
      rcases h2 x o hx with h | ⟨i, a, b, c⟩
      · exact .inl h
      · exact .inr ⟨i, a, by omega, c⟩
    have keep : (S (p + d + 1)).H = (S (p + d)).H → (S (p + (d + 1))).H.next = (S p).H.next ∧ ∀ x o, (S (p + (d + 1))).H.get x = some o → (S p).H.get x = some o ∨ ∃ i, p ≤ i ∧ i < p + (d + 1) ∧ News S i x o := fun e => by
      rw [show p + (d + 1) = p + d + 1 by omega, e]
      exact ⟨h1, weak⟩
    cases hd with
    | actSkip a => exact absurd a (by simp [hna])
    | act x a => exact absurd a (by simp [hna])
    | skip _ _ _ e => exact keep e
    | look _ _ _ _ _ _ _ _ e => exact keep e
    | pure _ _ _ _ e => exact keep e
    | news ob _ _ _ _ e _ _ e' =>
      rw [show p + (d + 1) = p + d + 1 by omega]
      refine ⟨by rw [e]; exact h1, fun x o hx => ?_⟩
      by_cases hxe : x = (S (p + d)).nm
      · subst hxe
        rw [e, Hp.get_put_same] at hx
        cases hx
        exact .inr ⟨p + d, by omega, by omega, rfl, e', e⟩
      · rw [e, Hp.get_put_ne _ _ hxe] at hx
        exact weak x o hx

theorem freeN_spec {H : Hp} : ∀ {n : Nat} {x : K}, freeN H n x = true → ∀ y : K, x.toNat ≤ y.toNat → y.toNat < x.toNat + n → H.get y = none
  | 0, x, _, y, h1, h2 => by omega
  | n + 1, x, h, y, h1, h2 => by
    simp only [freeN] at h
    split at h
    · rename_i hx
      by_cases e : y.toNat = x.toNat
      · rw [K.toNat_inj e]; exact hx
      · exact freeN_spec h y (by rw [K.toNat_succ]; omega) (by rw [K.toNat_succ]; omega)
    · cases h

/-- the names kept for what is made ahead are free. -/
theorem names_free (cn : Canon P T rec ops rows S) (h0 : ∀ x : K, (S 0).nm.toNat ≤ x.toNat → (S 0).H.get x = none) : ∀ i, i ≤ ops.size → ∀ x : K, (S i).nm.toNat ≤ x.toNat → x.toNat < (S i).nm.toNat + (ops.size - i) → (S i).H.get x = none
  | 0, _, x, h1, _ => h0 x h1
  | i + 1, hi, x, h1, h2 => by
    have ih := names_free cn h0 i (by omega)
    have ho : ops[i]? = some ops[i] := by simp
    obtain ⟨y, gd, g, v, hy, _, _, hL, ht, hd⟩ := cn.step i _ ho
    have keep : (S (i + 1)).H = (S i).H → (S (i + 1)).nm = (S i).nm → (S (i + 1)).H.get x = none := fun e e' => by
      rw [e]; rw [e'] at h1 h2
      exact ih x h1 (by omega)
    cases hd with
    | actSkip _ _ _ e _ _ e' => exact keep e e'
    | act _ _ _ _ _ _ _ e' _ hf => rw [e'] at h1 h2; exact freeN_spec hf x h1 (by omega)
    | skip _ _ _ e _ _ e' => exact keep e e'
    | look _ _ _ _ _ _ _ _ e _ _ e' => exact keep e e'
    | pure _ _ _ _ e _ _ e' => exact keep e e'
    | news ob _ _ _ _ e _ _ e' =>
      rw [e'] at h1 h2
      rw [K.toNat_succ] at h1 h2
      rw [e, Hp.get_put_ne _ _ (fun h => by rw [h] at h1; omega)]
      exact ih x (by omega) (by omega)

/-! ## heaps behind those that act -/
def nacts (rows : List Row) (p : Nat) : Nat := (rows.take p).countP (·.acts)
theorem nacts_succ {i : Nat} {y : Row} (h : rows[i]? = some y) : nacts rows (i + 1) = nacts rows i + (if y.acts = true then 1 else 0) := by
  unfold nacts
  rw [List.take_add_one, h]
  simp [List.countP_append, List.countP_cons]

theorem hs_len (cn : Canon P T rec ops rows S) (h0 : ∃ B, (S 0).hs = [B]) : ∀ i, i ≤ ops.size → (S i).hs.length = 1 + nacts rows i
  | 0, _ => by obtain ⟨B, e⟩ := h0; rw [e]; simp [nacts]
  | i + 1, hi => by
    have ih := hs_len cn h0 i (by omega)
    have ho : ops[i]? = some ops[i] := by simp
    obtain ⟨y, gd, g, v, hy, _, _, hL, ht, hd⟩ := cn.step i _ ho
    rw [nacts_succ hy]
    cases hd with
    | actSkip a _ _ _ e => rw [e, List.length_cons, ih, if_pos a]; omega
    | act _ a _ _ _ e => rw [e, List.length_cons, ih, if_pos a]; omega
    | skip a _ _ _ e => have a : y.acts = false := a; rw [e, ih, a]; simp
    | look _ _ a _ _ _ _ _ _ e => have a : y.acts = false := a; rw [e, ih, a]; simp
    | pure a _ _ _ _ e => have a : y.acts = false := a; rw [e, ih, a]; simp
    | news _ a _ _ _ _ e => have a : y.acts = false := a; rw [e, ih, a]; simp

theorem hs_pre (cn : Canon P T rec ops rows S) : ∀ (d p : Nat), p + d ≤ ops.size → ∃ pre, (S (p + d)).hs = pre ++ (S p).hs
  | 0, p, _ => ⟨[], rfl⟩
  | d + 1, p, h => by
    obtain ⟨pre, ih⟩ := hs_pre cn d p (by omega)
    have ho : ops[p + d]? = some ops[p + d] := by simp
    obtain ⟨y, gd, g, v, hy, _, _, hL, ht, hd⟩ := cn.step (p + d) _ ho
    rw [show p + (d + 1) = p + d + 1 by omega]
    cases hd with
    | actSkip _ _ _ _ e => exact ⟨_ :: pre, by rw [e, ih]; rfl⟩
    | act _ _ _ _ _ e => exact ⟨_ :: pre, by rw [e, ih]; rfl⟩
    | skip _ _ _ _ e => exact ⟨pre, by rw [e, ih]⟩
    | look _ _ _ _ _ _ _ _ _ e => exact ⟨pre, by rw [e, ih]⟩
    | pure _ _ _ _ _ e => exact ⟨pre, by rw [e, ih]⟩
    | news _ _ _ _ _ _ e => exact ⟨pre, by rw [e, ih]⟩

theorem ps_pre (cn : Canon P T rec ops rows S) : ∀ (d p : Nat), p + d ≤ ops.size → ∃ pre, (S (p + d)).ps = pre ++ (S p).ps
  | 0, p, _ => ⟨[], rfl⟩
  | d + 1, p, h => by
    obtain ⟨pre, ih⟩ := ps_pre cn d p (by omega)
    have ho : ops[p + d]? = some ops[p + d] := by simp
    obtain ⟨y, gd, g, v, hy, _, _, hL, ht, hd⟩ := cn.step (p + d) _ ho
    rw [show p + (d + 1) = p + d + 1 by omega]
    cases hd with
    | actSkip _ _ _ _ _ e => exact ⟨pre, by rw [e, ih]⟩
    | act _ _ _ _ _ _ e => exact ⟨pre, by rw [e, ih]⟩
    | skip _ _ _ _ _ e => exact ⟨pre, by rw [e, ih]⟩
    | look _ _ _ _ _ _ _ _ _ _ e => exact ⟨_ :: pre, by rw [e, ih]; rfl⟩
    | pure _ _ _ _ _ _ e => exact ⟨pre, by rw [e, ih]⟩
    | news _ _ _ _ _ _ _ e => exact ⟨pre, by rw [e, ih]⟩

theorem hs_head (cn : Canon P T rec ops rows S) (h0 : (S 0).hs = [(S 0).H]) {p : Nat} (hp : p ≤ ops.size) (h : p = 0 ∨ ∃ i, p = i + 1 ∧ Acts rows i) : ∃ tl, (S p).hs = (S p).H :: tl := by
  rcases h with rfl | ⟨i, rfl, y', hy', ha⟩
  · exact ⟨[], h0⟩
  · have ho : ops[i]? = some ops[i] := by simp
    obtain ⟨y, gd, g, v, hy, _, _, hL, ht, hd⟩ := cn.step i _ ho
    rw [hy] at hy'; cases hy'
    cases hd with
    | actSkip _ _ _ _ e => exact ⟨_, e⟩
    | act _ _ _ _ _ e => exact ⟨_, e⟩
    | skip a => exact absurd (show y'.acts = false from a) (by simp [ha])
    | look _ _ a => exact absurd (show y'.acts = false from a) (by simp [ha])
    | pure a => exact absurd (show y'.acts = false from a) (by simp [ha])
    | news _ a => exact absurd (show y'.acts = false from a) (by simp [ha])

/-! ## looks -/
theorem pastOk_mem {i : I} {L : Loc} {t : Tr AV} {v : AV} {first : Nat} : ∀ {pre : List Hp} {H : Hp} {tl : List Hp}, pastOk P T i L t v first (pre ++ H :: tl) = true → first ≤ tl.length → sameVal P T i L t H v = true
  | [], H, tl, h, hl => by
    simp only [List.nil_append, pastOk, ble_nat, hl, decide_true] at h
    split at h
    · assumption
    · cases h
  | B :: pre, H, tl, h, hl => by
    simp only [List.cons_append, pastOk] at h
    split at h
    · exact pastOk_mem h hl
    · split at h
      · exact pastOk_mem h hl
      · cases h
theorem pendOk_mem {stage : Nat} {H : Hp} {p : Pend} : ∀ {l : List Pend}, pendOk P T stage H l = true → p ∈ l → stage ≤ p.last → sameVal P T p.op p.L p.t H p.v = true
  | [], _, h, _ => by simp at h
  | x :: r, h, hm, hl => by
    simp only [pendOk] at h
    split at h
    · rename_i hb
      rcases List.mem_cons.1 hm with rfl | hm
      · rw [ble_nat] at hb
        have := of_decide_eq_false hb
        omega
      · exact pendOk_mem h hm hl
    · split at h
      · rename_i hs
        rcases List.mem_cons.1 hm with rfl | hm
        · exact hs
        · exact pendOk_mem h hm hl
      · cases h

theorem firstOf_le {anc : Nat} : ∀ {l : List Row} {k p : Nat}, (∀ i x, l[i]? = some x → x.acts = true → Nat.testBit anc (k + i) = true → k + i < p) → firstOf anc l k ≤ (l.take (p - k)).countP (·.acts)
  | [], k, p, _ => by simp [firstOf]
  | x :: l, k, p, h => by
    have tail : ∀ i y, l[i]? = some y → y.acts = true → Nat.testBit anc (k + 1 + i) = true → k + 1 + i < p := fun i y hy ha hb => by
      have := h (i + 1) y (by simpa using hy) ha (by rw [show k + (i + 1) = k + 1 + i by omega]; exact hb)
      omega
    have ih := firstOf_le (p := p) tail
    by_cases hp : k < p
    · rw [show p - k = (p - (k + 1)) + 1 by omega, List.take_succ_cons, List.countP_cons]
      simp only [firstOf]
      split
      · omega
      · rename_i ha
        split
        · simp only [ha, if_true]; omega
        · omega
    · rw [show p - k = 0 by omega]
      rw [show p - (k + 1) = 0 by omega] at ih
      simp only [List.take_zero, List.countP_nil, Nat.le_zero] at ih ⊢
      simp only [firstOf]
      split
      · exact ih
      · rename_i ha
        split
        · rename_i hb
          exact absurd (h 0 x rfl ha hb) (by omega)
        · exact ih
theorem lastOf_ge {j : Nat} : ∀ {l : List Row} {k p : Nat}, (∀ i x, l[i]? = some x → x.acts = true → k + i < p → Nat.testBit x.anc j = false) → (l.take (p - k)).countP (·.acts) ≤ lastOf j l
  | [], k, p, _ => by simp
  | x :: l, k, p, h => by
    have tail : ∀ i y, l[i]? = some y → y.acts = true → k + 1 + i < p → Nat.testBit y.anc j = false := fun i y hy ha hb => h (i + 1) y (by simpa using hy) ha (by omega)
    have ih := lastOf_ge (p := p) tail
    by_cases hp : k < p
    · rw [show p - k = (p - (k + 1)) + 1 by omega, List.take_succ_cons, List.countP_cons]
      simp only [lastOf]
      cases ha : x.acts with
      | false => simp only [Bool.false_eq_true, if_false]; omega
      | true =>
        have hb := h 0 x rfl ha (by omega)
        simp only [hb, if_true]
        omega
    · rw [show p - k = 0 by omega]
      simp

end

end
end Go.Sx
