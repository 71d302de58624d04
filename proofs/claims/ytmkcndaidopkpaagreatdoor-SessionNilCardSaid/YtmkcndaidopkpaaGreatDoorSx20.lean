/- Each order that the model may draw is one that the table allows. -/
import Derived.Test.YtmkcndaidopkpaaGreatDoorSx19
namespace Go.Sx
noncomputable section
variable {P : Program}

inductive Sched (rows : List Row) (n : Nat) : (Nat → Prop) → List Nat → Prop
  | nil (D : Nat → Prop) : (∀ i, i < n → D i) → Sched rows n D []
  | cons (D : Nat → Prop) (i : Nat) (l : List Nat) : i < n → ¬ D i → (∀ k, Anc rows i k → D k) → Sched rows n (fun x => D x ∨ x = i) l → Sched rows n D (i :: l)

theorem countP_less {p p' : Nat → Bool} {i : Nat} : ∀ {r : List Nat}, r.Nodup → i ∈ r → p i = true → p' i = false → (∀ j, j ≠ i → p' j = p j) → r.countP p = r.countP p' + 1
  | [], _, h, _, _, _ => by simp at h
  | x :: r, hn, hi, hp, hp', hq => by
    have hn' := List.nodup_cons.1 hn
    by_cases e : x = i
    · subst e
      have : ∀ {l : List Nat}, x ∉ l → l.countP p = l.countP p' := by
        intro l hl
        induction l with
        | nil => rfl
        | cons y l ih =>
          have hy : y ≠ x := fun e => hl (by simp [e])
          simp only [List.countP_cons, hq y hy, ih (fun h => hl (by simp [h]))]
      simp [hp, hp', this hn'.1]
    · have hm : i ∈ r := by
        rcases List.mem_cons.1 hi with h | h
        · exact absurd h.symm e
        · exact h
      have := countP_less hn'.2 hm hp hp' hq
      simp only [List.countP_cons, hq x e, this]
      omega

section
variable {ops : Array Oper} {rows : List Row}

def lists (a : Array Bool) (i : Nat) : Prop := a.getD i false = true

theorem lists_set {a : Array Bool} {i : Nat} (h : i < a.size) : lists (a.setIfInBounds i true) = fun x => lists a x ∨ x = i := by
  funext x
  apply propext
  unfold lists
  simp only [Array.getD_eq_getD_getElem?]
  by_cases e : i = x
  · subst e; simp [h]
  · rw [Array.getElem?_setIfInBounds_ne e]
    have : x ≠ i := fun h => e h.symm
    simp [this]

theorem mem_ready {md : Region.Mode} {a : Array Bool} {i : Nat} (hs : a.size = ops.size) : i ∈ Region.ready md ops a ↔ ∃ o, ops[i]? = some o ∧ ¬ lists a i ∧ ∀ e ∈ o.after, Region.binds md e = true → lists a e.on := by
  unfold Region.ready lists
  simp only [List.mem_filter, List.mem_range, Bool.and_eq_true, Bool.not_eq_true']
  constructor
  · rintro ⟨hi, h1, h2⟩
    refine ⟨ops[i], by simp [hi], ?_, fun e he hb => ?_⟩
    · simp only [Array.getD_eq_getD_getElem?] at h1 ⊢
      have : i < a.size := by omega
      simp [this] at h1 ⊢
      exact h1
    · simp [hi] at h2
      obtain ⟨k, hk, rfl⟩ := Array.mem_iff_getElem.1 he
      have := h2 k hk
      rcases this with h | h
      · rw [hb] at h; cases h
      · simpa using h
  · rintro ⟨o, ho, h1, h2⟩
    have hi : i < ops.size := (Array.getElem?_eq_some_iff.1 ho).1
    refine ⟨hi, ?_, ?_⟩
    · simp only [Array.getD_eq_getD_getElem?] at h1 ⊢
      have : i < a.size := by omega
      simp [this] at h1 ⊢
      exact h1
    · rw [ho]
      simp only [Option.map_some, Option.getD_some, Array.all_eq_true]
      intro k hk
      cases hb : Region.binds md o.after[k] with
      | false => rfl
      | true =>
        have := h2 _ (Array.getElem_mem hk) hb
        simpa using this

/-! ## something is ready while anything is left -/
theorem gcOf_spec : ∀ {es : List Edge} {e : Edge}, e ∈ es → Region.binds .gc e = true → Nat.testBit (gcOf es) e.on = true
  | [], _, h, _ => by simp at h
  | x :: r, e, h, hb => by
    simp only [gcOf]
    split
    · rename_i hg
      rcases List.mem_cons.1 h with rfl | h
      · simp [Region.binds, hg] at hb
      · exact gcOf_spec h hb
    · rw [testBit_lor, testBit_pow]
      rcases List.mem_cons.1 h with rfl | h
      · simp
      · rw [gcOf_spec h hb]; simp

theorem peel1_keeps {D : Nat → Prop} : ∀ {l : List Row} {i m : Nat}, (∀ k y, l[k]? = some y → (∀ b, Nat.testBit y.gc b = true → D b) → D (i + k)) → (∀ b, Nat.testBit m b = true → D b) → ∀ b, Nat.testBit (peel1 l i m) b = true → D b
  | [], i, m, _, hm, b, h => hm b h
  | y :: r, i, m, hl, hm, b, h => by
    simp only [peel1] at h
    refine peel1_keeps (l := r) (i := i + 1) (fun k z hz hb => ?_) ?_ b h
    · have := hl (k + 1) z (by simpa using hz) hb
      rw [show i + 1 + k = i + (k + 1) by omega]; exact this
    · intro c hc
      split at hc
      · rename_i e
        rw [beq_nat] at e
        have e : Nat.land y.gc m = y.gc := by simpa using e
        rw [testBit_lor, testBit_pow, Bool.or_eq_true] at hc
        rcases hc with hc | hc
        · exact hm c hc
        · have hc : i = c := by simpa using hc
          subst hc
          refine hl 0 y rfl (fun d hd => hm d ?_)
          have : Nat.testBit (Nat.land y.gc m) d = (Nat.testBit y.gc d && Nat.testBit m d) := Nat.testBit_and _ _ d
          rw [e, hd] at this
          simpa using this.symm
      · exact hm c hc
theorem peel_keeps {D : Nat → Prop} {l : List Row} {all : Nat} (hl : ∀ k y, l[k]? = some y → (∀ b, Nat.testBit y.gc b = true → D b) → D k) : ∀ {n m : Nat}, peel l all n m = true → (∀ b, Nat.testBit m b = true → D b) → ∀ b, Nat.testBit all b = true → D b
  | 0, m, h, hm, b, hb => by
    have : m = all := by simpa [peel, beq_nat] using h
    exact hm b (this ▸ hb)
  | n + 1, m, h, hm, b, hb => by
    simp only [peel] at h
    split at h
    · rename_i e
      have : m = all := by simpa [beq_nat] using e
      exact hm b (this ▸ hb)
    · exact peel_keeps hl h (peel1_keeps (fun k y hk hb => by rw [Nat.zero_add]; exact hl k y hk hb) hm) b hb

theorem ready_some (tb : Table P ops rows) {md : Region.Mode} (hmd : md = .gc → peel rows (2 ^ ops.size - 1) ops.size 0 = true) {a : Array Bool} (hs : a.size = ops.size) {j : Nat} (hj : j < ops.size) (hn : ¬ lists a j) :
    Region.ready md ops a ≠ [] := by
  intro hnil
  have none : ∀ i o, ops[i]? = some o → ¬ lists a i → ∃ e ∈ o.after, Region.binds md e = true ∧ ¬ lists a e.on := by
    intro i o ho hi
    apply Classical.byContradiction
    intro hc
    have : i ∈ Region.ready md ops a := (mem_ready hs).2 ⟨o, ho, hi, fun e he hb => Classical.byContradiction fun hl => hc ⟨e, he, hb, hl⟩⟩
    rw [hnil] at this
    simp at this
  by_cases hg : md = .gc
  · have hp := hmd hg
    subst hg
    refine hn (peel_keeps (D := lists a) (fun k y hk hb => ?_) hp (fun b hb => by simp at hb) j ?_)
    · apply Classical.byContradiction
      intro hc
      have hkn : k < ops.size := by rw [← tb.len]; exact (List.getElem?_eq_some_iff.1 hk).1
      obtain ⟨e, he, hbind, hl⟩ := none k ops[k] (by simp [hkn]) hc
      obtain ⟨ms, hrow⟩ := tb.row k ops[k] (by simp [hkn])
      rw [hk] at hrow
      cases hrow
      exact hl (hb _ (gcOf_spec (by simpa using he) hbind))
    · rw [Nat.testBit_two_pow_sub_one]; simpa using hj
  · have key : ∀ i, i < ops.size → ¬ lists a i → False := by
      intro i
      induction i using Nat.strongRecOn with
      | ind i ih =>
        intro hi hni
        obtain ⟨e, he, hb, hl⟩ := none i ops[i] (by simp [hi]) hni
        rcases tb.edge i ops[i] (by simp [hi]) e he with h | ⟨⟨r, hr⟩, _⟩
        · exact ih e.on h (by omega) hl
        · rw [Region.binds, hr] at hb
          exact hg (by simpa using hb)
    exact key j hj hn

theorem sched_go (tb : Table P ops rows) {md : Region.Mode} (hmd : md = .gc → peel rows (2 ^ ops.size - 1) ops.size 0 = true) : ∀ (fuel t : Nat) (a : Array Bool), a.size = ops.size →
    (List.range ops.size).countP (fun i => !a.getD i false) = fuel → (∀ i, lists a i → ∀ k, Anc rows i k → lists a k) → Sched rows ops.size (lists a) (Region.linearise.go md ops fuel t a [])
  | 0, t, a, hs, hc, hcl => by
    refine .nil _ (fun i hi => ?_)
    have := (List.countP_eq_zero.1 hc) i (by simpa using hi)
    simpa [lists] using this
  | fuel + 1, t, a, hs, hc, hcl => by
    have hex : ∃ j, j < ops.size ∧ ¬ lists a j := by
      have : 0 < (List.range ops.size).countP (fun i => !a.getD i false) := by omega
      obtain ⟨j, hj, hp⟩ := List.countP_pos_iff.1 this
      exact ⟨j, by simpa using hj, by simpa [lists] using hp⟩
    obtain ⟨j, hj, hn⟩ := hex
    have hne := ready_some tb hmd hs hj hn
    have hlen : 0 < (Region.ready md ops a).length := List.length_pos_iff.2 hne
    have hlt := Nat.mod_lt t hlen
    obtain ⟨i, hi⟩ : ∃ i, (Region.ready md ops a)[t % (Region.ready md ops a).length]? = some i := ⟨_, List.getElem?_eq_getElem hlt⟩
    have hm := (mem_ready hs).1 (List.mem_of_getElem? hi)
    obtain ⟨o, ho, hni, hedge⟩ := hm
    have hin : i < ops.size := (Array.getElem?_eq_some_iff.1 ho).1
    simp only [Region.linearise.go]
    change Sched rows ops.size (lists a) (match (Region.ready md ops a)[t % (Region.ready md ops a).length]? with
      | some i => Region.linearise.go md ops fuel (t / (Region.ready md ops a).length) (a.setIfInBounds i true) [i]
      | none => [].reverse)
    rw [hi]
    simp only []
    rw [linearise_go_acc, List.reverse_singleton, List.singleton_append]
    have hanc : ∀ k, Anc rows i k → lists a k := by
      intro k hk
      rw [tb.eq] at hk
      obtain ⟨e, he, hf, hor⟩ := anc_step ho hk
      have hl := hedge e he (firm_binds hf)
      rcases hor with rfl | h
      · exact hl
      · exact hcl _ hl _ (tb.eq ▸ h)
    refine .cons _ i _ hin hni hanc ?_
    have hset := lists_set (a := a) (i := i) (by omega)
    rw [← hset]
    refine sched_go tb hmd fuel _ _ (by simpa using hs) ?_ ?_
    · have := countP_less (p := fun i => !a.getD i false) (p' := fun x => !(a.setIfInBounds i true).getD x false) (i := i) (r := List.range ops.size) List.nodup_range (by simpa using hin)
        (by simpa [lists] using hni) (by simp [Array.getD_eq_getD_getElem?, hs ▸ hin]) (fun x hx => by
          simp only [Array.getD_eq_getD_getElem?]; rw [Array.getElem?_setIfInBounds_ne (Ne.symm hx)])
      omega
    · rw [hset]
      intro x hx k hk
      rcases hx with hx | rfl
      · exact .inl (hcl x hx k hk)
      · exact .inl (hanc k hk)

theorem departs_eq (ops : Array Oper) (h : Region.departs ops = true) : anyDeparts ops.toList = true := by
  have one : ∀ es : List Edge, es.any (fun e => !Region.binds .any e) = true → anyDeparts.departsIn es = true := by
    intro es
    induction es with
    | nil => intro h; simp at h
    | cons e r ih =>
      intro h
      simp only [anyDeparts.departsIn]
      split
      · rfl
      · rfl
      · rename_i h1 h2
        simp only [List.any_cons, Bool.or_eq_true] at h
        rcases h with h | h
        · exfalso
          revert h
          unfold Region.binds
          split
          · rename_i hx; exact absurd hx (by first | exact h1 _ | exact h2 _)
          · rename_i hx; exact absurd hx (by first | exact h2 _ | exact h1 _)
          · simp
        · exact ih h
  have all : ∀ l : List Oper, l.any (fun o => o.after.any fun e => !Region.binds .any e) = true → anyDeparts l = true := by
    intro l
    induction l with
    | nil => intro h; simp at h
    | cons o r ih =>
      intro h
      simp only [anyDeparts]
      split
      · rfl
      · rename_i h1
        simp only [List.any_cons, Bool.or_eq_true] at h
        rcases h with h | h
        · have := one o.after.toList (by simpa using h)
          rw [this] at h1; cases h1
        · exact ih h
  exact all ops.toList (by simpa [Region.departs] using h)

theorem sched_of (tb : Table P ops rows) (t : Nat) : Sched rows ops.size (fun _ => False) (Region.schedule (P.follows .mixedOrders) ops t) := by
  have base : ∀ {md : Region.Mode} (_ : md = .gc → peel rows (2 ^ ops.size - 1) ops.size 0 = true) (t : Nat), Sched rows ops.size (fun _ => False) (Region.linearise md ops t) := by
    intro md hmd t
    have hl : lists (Array.replicate ops.size false) = fun _ => False := by
      funext x
      apply propext
      simp only [lists, Array.getD_eq_getD_getElem?, iff_false, Bool.not_eq_true]
      by_cases hx : x < ops.size <;> simp [hx]
    have := sched_go tb hmd ops.size t (Array.replicate ops.size false) (by simp) (by
      rw [List.countP_eq_length.2]
      · simp
      · intro x hx
        have : x < ops.size := by simpa using hx
        simp [Array.getD_eq_getD_getElem?, this]) (fun i hi => by rw [hl] at hi; exact hi.elim)
    rw [hl] at this
    exact this
  unfold Region.schedule
  split
  · exact base (fun h => by cases h) t
  · rename_i hd
    have hd : Region.departs ops = true := by
      cases h : Region.departs ops with
      | true => rfl
      | false => rw [h] at hd; simp at hd
    have hp := tb.peel (departs_eq ops hd)
    split
    · exact base (fun _ => hp) _
    · exact base (fun _ => hp) _
end

end
end Go.Sx
