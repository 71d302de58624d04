/- What a call does in a small heap it does in each heap that has the small one's objects: the table of answered calls. -/
import Derived.Test.YtmkcndaidopkpaaGreatDoorSx26
namespace Go.Sx
noncomputable section
variable {P : Program}

/-! ## values whose names are small -/
def flatSmall (n : Nat) : AV → Bool
  | .bool _ => true
  | .int _ _ => true
  | .str _ => true
  | .nilp => true
  | .ptr x _ => Nat.ble (x.toNat + 1) n
  | .nilsl => true
  | .nilm => true
  | .mapv x => Nat.ble (x.toNat + 1) n
  | .func _ [] [] => true
  | .nilf => true
  | .nili => true
  | .rng _ _ _ _ _ => true
  | .anyb => true
  | .any => true
  | .undef => true
  | _ => false
def flatSmalls (n : Nat) : List AV → Bool
  | [] => true
  | x :: r => match flatSmall n x with | true => flatSmalls n r | false => false
def small1 (n : Nat) : AV → Bool
  | .agg l => flatSmalls n l
  | v => flatSmall n v
def small1s (n : Nat) : List AV → Bool
  | [] => true
  | x :: r => match small1 n x with | true => small1s n r | false => false
def small (n : Nat) : AV → Bool
  | .tup l => small1s n l
  | v => small1 n v
def smalls (n : Nat) : List AV → Bool
  | [] => true
  | x :: r => match small n x with | true => smalls n r | false => false
def smallEs (n : Nat) : List (AV × AV × Nat) → Bool
  | [] => true
  | (k, v, _) :: r => match flatSmall n k, flatSmall n v with | true, true => smallEs n r | _, _ => false
def smallO (n : Nat) : AObj → Bool
  | .cells l _ => flatSmalls n l
  | .map es _ => smallEs n es
  | .tab _ l => flatSmalls n (l.map (·.2))
  | _ => false

/-- as the first, as far as the names are small. -/
def Agree (n : Nat) (φ ψ : Em) : Prop := ∀ x p, x.toNat < n → φ x = some p → ψ x = some p

theorem flatSmall_rel {n : Nat} {φ ψ : Em} (h : Agree n φ ψ) {a : AV} {v : Value} (hs : flatSmall n a = true) (r : VRel φ a v) : VRel ψ a v := by
  cases r with
  | undef v => exact .undef v
  | any v hv => exact .any v hv
  | bool b => exact .bool b
  | int k n => exact .int k n
  | str s => exact .str s
  | nilp => exact .nilp
  | ptr x o p hp => simp only [flatSmall, ble_nat, decide_eq_true_eq] at hs; exact .ptr x o p (h x p hs hp)
  | nilsl => exact .nilsl
  | nilm => exact .nilm
  | mapv x p hp => simp only [flatSmall, ble_nat, decide_eq_true_eq] at hs; exact .mapv x p (h x p hs hp)
  | func f a b as bs h1 h2 =>
    cases a with
    | nil =>
      cases b with
      | nil =>
        cases as with | mk as => cases bs with | mk bs => 
        cases h1; cases h2
        exact .func f [] [] _ _ .nil .nil
      | cons _ _ => cases hs
    | cons _ _ => cases hs
  | nilf => exact .nilf
  | nili => exact .nili
  | rng k lo hi m r x h1 h2 h3 => exact .rng k lo hi m r x h1 h2 h3
  | anyb b => exact .anyb b
  | _ => cases hs
theorem flatSmalls_rel {n : Nat} {φ ψ : Em} (h : Agree n φ ψ) : ∀ {l : List AV} {vs : List Value}, flatSmalls n l = true → VRels φ l vs → VRels ψ l vs
  | [], _, _, .nil => .nil
  | a :: l, _, hs, .cons _ v _ vs h1 h2 => by
    simp only [flatSmalls] at hs
    split at hs
    · rename_i ha; exact .cons _ _ _ _ (flatSmall_rel h ha h1) (flatSmalls_rel h hs h2)
    · cases hs
theorem small1_rel {n : Nat} {φ ψ : Em} (h : Agree n φ ψ) {a : AV} {v : Value} (hs : small1 n a = true) (r : VRel φ a v) : VRel ψ a v := by
  unfold small1 at hs
  split at hs
  · cases r with
    | agg _ cs h1 => exact .agg _ cs (flatSmalls_rel h hs h1)
  · exact flatSmall_rel h hs r
theorem small1s_rel {n : Nat} {φ ψ : Em} (h : Agree n φ ψ) : ∀ {l : List AV} {vs : List Value}, small1s n l = true → VRels φ l vs → VRels ψ l vs
  | [], _, _, .nil => .nil
  | a :: l, _, hs, .cons _ v _ vs h1 h2 => by
    simp only [small1s] at hs
    split at hs
    · rename_i ha; exact .cons _ _ _ _ (small1_rel h ha h1) (small1s_rel h hs h2)
    · cases hs
theorem small_rel {n : Nat} {φ ψ : Em} (h : Agree n φ ψ) {a : AV} {v : Value} (hs : small n a = true) (r : VRel φ a v) : VRel ψ a v := by
  unfold small at hs
  split at hs
  · cases r with
    | tup _ cs h1 => exact .tup _ cs (small1s_rel h hs h1)
  · exact small1_rel h hs r
theorem smalls_rel {n : Nat} {φ ψ : Em} (h : Agree n φ ψ) : ∀ {l : List AV} {vs : List Value}, smalls n l = true → VRels φ l vs → VRels ψ l vs
  | [], _, _, .nil => .nil
  | a :: l, _, hs, .cons _ v _ vs h1 h2 => by
    simp only [smalls] at hs
    split at hs
    · rename_i ha; exact .cons _ _ _ _ (small_rel h ha h1) (smalls_rel h hs h2)
    · cases hs
theorem flatSmalls_get {n : Nat} : ∀ {l : List AV} {k : Nat} {a : AV}, flatSmalls n l = true → l[k]? = some a → flatSmall n a = true
  | [], k, a, _, h => by simp at h
  | x :: l, 0, a, hs, h => by
    simp at h; subst h
    simp only [flatSmalls] at hs
    split at hs
    · assumption
    · cases hs
  | x :: l, k + 1, a, hs, h => by
    simp only [flatSmalls] at hs
    split at hs
    · exact flatSmalls_get hs (by simpa using h)
    · cases hs
theorem smallEs_rel {n : Nat} {φ ψ : Em} (h : Agree n φ ψ) : ∀ {l : List (AV × AV × Nat)} {es : List MapEntry}, smallEs n l = true → ERel φ l es → ERel ψ l es
  | [], _, _, .nil => .nil
  | (k, v, b) :: l, _, hs, .cons _ _ _ e _ es h1 h2 h3 h4 => by
    simp only [smallEs] at hs
    split at hs
    · rename_i hk hv; exact .cons _ _ _ _ _ _ (flatSmall_rel h hk h1) (flatSmall_rel h hv h2) h3 (smallEs_rel h hs h4)
    · cases hs
theorem smallO_rel {n : Nat} {φ ψ : Em} (h : Agree n φ ψ) {p : Pl} {o : AObj} {ob : Obj} (hs : smallO n o = true) (r : ORel φ p o ob) : ORel ψ p o ob := by
  cases r with
  | cells l s c elem fr h1 h2 h3 h4 h5 =>
    refine .cells l s c elem fr h1 h2 (fun k a e => ?_) h4 h5
    obtain ⟨v, hv, hr⟩ := h3 k a e
    exact ⟨v, hv, flatSmall_rel h (flatSmalls_get hs e) hr⟩
  | map l es c h1 => exact .map l es c (smallEs_rel h hs h1)
  | tab k l es c h1 h2 h3 h4 =>
    refine .tab k l es c h1 h2 (fun e he => ?_) h4
    obtain ⟨q, hq, hk, hv⟩ := h3 e he
    obtain ⟨i, hi, hg⟩ := List.mem_iff_getElem.1 (List.mem_map.2 ⟨q, hq, rfl⟩ : q.2 ∈ l.map (·.2))
    exact ⟨q, hq, hk, flatSmall_rel h (flatSmalls_get hs (List.getElem?_eq_some_iff.2 ⟨hi, hg⟩)) hv⟩
  | loop => cases hs

/-! ## the same objects -/
def eqEs : List (AV × AV × Nat) → List (AV × AV × Nat) → Bool
  | [], [] => true
  | (k, v, b) :: r, (k', v', b') :: q => match eqFlat k k', eqFlat v v', Nat.beq b b' with | true, true, true => eqEs r q | _, _, _ => false
  | _, _ => false
def eqTs : List (Nat × AV) → List (Nat × AV) → Bool
  | [], [] => true
  | (k, v) :: r, (k', v') :: q => match Nat.beq k k', eqFlat v v' with | true, true => eqTs r q | _, _ => false
  | _, _ => false
def eqO : AObj → AObj → Bool
  | .cells l s, .cells m u => match sameB s u with | true => eqFlats l m | false => false
  | .map es c, .map es' c' => match Nat.beq c c' with | true => eqEs es es' | false => false
  | .tab k l, .tab k' l' => match Nat.beq (kNat k) (kNat k') with | true => eqTs l l' | false => false
  | _, _ => false
def eqOO : Option AObj → Option AObj → Bool
  | some a, some b => eqO a b
  | _, _ => false
def sameAt (H H' : Hp) : List K → Bool
  | [] => true
  | x :: r => match eqOO (H.get x) (H'.get x) with | true => sameAt H H' r | false => false

theorem eqEs_eq : ∀ {l m : List (AV × AV × Nat)}, eqEs l m = true → l = m
  | [], [], _ => rfl
  | (k, v, b) :: r, (k', v', b') :: q, h => by
    simp only [eqEs] at h
    split at h
    · rename_i h1 h2 h3
      rw [beq_nat] at h3
      rw [eqFlat_eq h1, eqFlat_eq h2, of_decide_eq_true h3, eqEs_eq h]
    · cases h
  | [], _ :: _, h => by cases h
  | _ :: _, [], h => by cases h
theorem eqTs_eq : ∀ {l m : List (Nat × AV)}, eqTs l m = true → l = m
  | [], [], _ => rfl
  | (k, v) :: r, (k', v') :: q, h => by
    simp only [eqTs] at h
    split at h
    · rename_i h1 h2
      rw [beq_nat] at h1
      rw [of_decide_eq_true h1, eqFlat_eq h2, eqTs_eq h]
    · cases h
  | [], _ :: _, h => by cases h
  | _ :: _, [], h => by cases h
theorem eqO_eq {a b : AObj} (h : eqO a b = true) : a = b := by
  unfold eqO at h
  split at h
  · split at h
    · rename_i h1
      rw [sameB_eq] at h1
      rw [eq_of_beq h1, eqFlats_eq h]
    · cases h
  · split at h
    · rename_i h1
      rw [beq_nat] at h1
      rw [of_decide_eq_true h1, eqEs_eq h]
    · cases h
  · split at h
    · rename_i h1
      rw [kNat_inj h1, eqTs_eq h]
    · cases h
  · cases h
theorem eqOO_eq {a b : Option AObj} (h : eqOO a b = true) : ∃ o, a = some o ∧ b = some o := by
  unfold eqOO at h
  split at h
  · exact ⟨_, rfl, congrArg some (eqO_eq h).symm⟩
  · cases h
theorem sameAt_mem {H H' : Hp} : ∀ {ns : List K}, sameAt H H' ns = true → ∀ x ∈ ns, ∃ o, H.get x = some o ∧ H'.get x = some o
  | [], _, x, hx => by cases hx
  | y :: r, h, x, hx => by
    simp only [sameAt] at h
    split at h
    · rename_i h1
      rcases List.mem_cons.1 hx with rfl | hx
      · exact eqOO_eq h1
      · exact sameAt_mem h x hx
    · cases h

/-! ## weaker values -/
def weakF (a r : AV) : Bool :=
  match r, a with
  | .undef, _ => true
  | .anyb, .bool _ => true
  | r, a => eqFlat a r
def weakC (a r : AV) : Bool :=
  match r with
  | .any => storable a
  | r => weakF a r
def weakCs : List AV → List AV → Bool
  | [], [] => true
  | a :: l, r :: q => match weakC a r with | true => weakCs l q | false => false
  | _, _ => false
def weak1 (a r : AV) : Bool :=
  match r, a with
  | .agg q, .agg l => weakCs l q
  | r, a => weakC a r
def weak1s : List AV → List AV → Bool
  | [], [] => true
  | a :: l, r :: q => match weak1 a r with | true => weak1s l q | false => false
  | _, _ => false
def weak (a r : AV) : Bool :=
  match r, a with
  | .tup q, .tup l => weak1s l q
  | r, a => weak1 a r

theorem weakF_rel {φ : Em} {a r : AV} {v : Value} (h : weakF a r = true) (hr : VRel φ a v) : VRel φ r v := by
  unfold weakF at h
  split at h
  · exact .undef v
  · cases hr; exact .anyb _
  · rw [← eqFlat_eq h]; exact hr
theorem weakC_rel {φ : Em} {a r : AV} {v : Value} (h : weakC a r = true) (hr : VRel φ a v) : VRel φ r v := by
  unfold weakC at h
  split at h
  · exact .any v (flat_of_storable h hr)
  · exact weakF_rel h hr
theorem weakCs_rel {φ : Em} : ∀ {l q : List AV} {vs : List Value}, weakCs l q = true → VRels φ l vs → VRels φ q vs
  | [], [], _, _, .nil => .nil
  | a :: l, r :: q, _, h, .cons _ v _ vs h1 h2 => by
    simp only [weakCs] at h
    split at h
    · rename_i ha; exact .cons _ _ _ _ (weakC_rel ha h1) (weakCs_rel h h2)
    · cases h
  | [], _ :: _, _, h, _ => by cases h
  | _ :: _, [], _, h, _ => by cases h
theorem weak1_rel {φ : Em} {a r : AV} {v : Value} (h : weak1 a r = true) (hr : VRel φ a v) : VRel φ r v := by
  unfold weak1 at h
  split at h
  · cases hr with | agg _ cs h1 => exact .agg _ _ (weakCs_rel h h1)
  · exact weakC_rel h hr
theorem weak1s_rel {φ : Em} : ∀ {l q : List AV} {vs : List Value}, weak1s l q = true → VRels φ l vs → VRels φ q vs
  | [], [], _, _, .nil => .nil
  | a :: l, r :: q, _, h, .cons _ v _ vs h1 h2 => by
    simp only [weak1s] at h
    split at h
    · rename_i ha; exact .cons _ _ _ _ (weak1_rel ha h1) (weak1s_rel h h2)
    · cases h
  | [], _ :: _, _, h, _ => by cases h
  | _ :: _, [], _, h, _ => by cases h
theorem weak_rel {φ : Em} {a r : AV} {v : Value} (h : weak a r = true) (hr : VRel φ a v) : VRel φ r v := by
  unfold weak at h
  split at h
  · cases hr with | tup _ cs h1 => exact .tup _ _ (weak1s_rel h h1)
  · exact weak1_rel h hr

/-! ## a small heap within another -/
structure Base (P : Program) (H0 : Hp) (ns : List K) : Prop where
  names : ∀ x o, H0.get x = some o → x ∈ ns
  lt : ∀ x ∈ ns, x.toNat < H0.next.toNat
  objs : ∀ x o, H0.get x = some o → smallO H0.next.toNat o = true
  glob : P.globals.size ≤ H0.next.toNat

theorem frame_ok {H0 : Hp} {ns : List K} (hb : Base P H0 ns) {f : FuncId} {args : List AV} {r : AV} (h : CallQ P f args H0 fun v H' => weak v r && sameAt H0 H' ns) (hr : small H0.next.toNat r = true) (ha : smalls H0.next.toNat args = true)
    {H : Hp} (hs : sameAt H0 H ns = true) : CallOk P f args H r H := by
  intro φ w args' hrel hargs
  let ψ : Em := fun x => if x.toNat < H0.next.toNat then φ x else none
  have hψ : ∀ x p, ψ x = some p → x.toNat < H0.next.toNat ∧ φ x = some p := fun x p h => by
    by_cases hx : x.toNat < H0.next.toNat
    · simp only [ψ, hx, if_true] at h; exact ⟨hx, h⟩
    · simp only [ψ, hx, if_false] at h; cases h
  have hψ' : ∀ x, x.toNat < H0.next.toNat → ψ x = φ x := fun x hx => by simp [ψ, hx]
  have ag : Agree H0.next.toNat φ ψ := fun x p hx hp => by rw [hψ' x hx]; exact hp
  have hsub : ∀ x o, H0.get x = some o → H.get x = some o := fun x o hx => by
    obtain ⟨o', h1, h2⟩ := sameAt_mem hs x (hb.names x o hx)
    rw [hx] at h1; cases h1; exact h2
  have hrel0 : HRel P ψ H0 w := by
    refine ⟨fun x o hx => ?_, fun x y o o' p q hx hy hp hq e => ?_, fun x p hp => (hψ x p hp).1, fun g hg => ?_⟩
    · obtain ⟨p, ob, h1, h2, h3⟩ := hrel.obj x o (hsub x o hx)
      exact ⟨p, ob, by rw [hψ' x (hb.lt x (hb.names x o hx))]; exact h1, h2, smallO_rel ag (hb.objs x o hx) h3⟩
    · exact hrel.inj x y o o' p q (hsub x o hx) (hsub y o' hy) (hψ x p hp).2 (hψ y q hq).2 e
    · obtain ⟨row, h1⟩ := hrel.glob g hg
      exact ⟨row, by rw [hψ' _ (by rw [kOf_toNat]; exact Nat.lt_of_lt_of_le hg hb.glob)]; exact h1⟩
  refine (h ψ w args' hrel0 (smalls_rel ag ha hargs)).mono ?_
  rintro e w' ⟨v, H', φ', v', hq, rfl, hv, hrel', hx⟩
  rw [Bool.and_eq_true] at hq
  have ag' : Agree H0.next.toNat φ' φ := fun x p hx' hp => by
    rcases hx.dom x p hp with h1 | h1
    · exact (hψ x p h1).2
    · omega
  have hl : ∀ b, Lies ψ H0 b → Lies φ H b := fun b ⟨x, o, p, h1, h2, h3⟩ => ⟨x, o, p, hsub x o h1, (hψ x p h2).2, h3⟩
  refine ⟨φ, v', rfl, small_rel ag' hr (weak_rel hq.1 hv), ⟨fun x o hxo => ?_, hrel.inj, hrel.dom, hrel.glob⟩, ⟨Le.refl φ, Nat.le_refl _, hx.size, fun b hb1 hb2 => hx.frame b hb1 fun hl' => hb2 (hl b hl'), fun b hb1 => .inl hb1, fun x p hp => .inl hp, hx.os, hx.output, hx.tape, hx.keeps⟩⟩
  obtain ⟨p, ob, h1, h2, h3⟩ := hrel.obj x o hxo
  by_cases hin : Lies ψ H0 p.blk
  · obtain ⟨y, oy, q, hy, hqy, hbq⟩ := hin
    have e : y = x := hrel.inj y x oy o q p (hsub y oy hy) hxo (hψ y q hqy).2 h1 hbq
    subst e
    have e2 := hsub y oy hy
    rw [hxo] at e2; cases e2
    obtain ⟨o'', h4, h5⟩ := sameAt_mem hq.2 y (hb.names y o hy)
    rw [hy] at h4; cases h4
    obtain ⟨p', ob', h6, h7, h8⟩ := hrel'.obj y o h5
    have e3 := ag' y p' (hb.lt y (hb.names y o hy)) h6
    rw [h1] at e3; cases e3
    exact ⟨p, ob', h1, h7, smallO_rel ag' (hb.objs y o hy) h8⟩
  · refine ⟨p, ob, h1, ?_, h3⟩
    rw [hx.frame p.blk (Array.getElem?_eq_some_iff.1 h2).1 hin]
    exact h2

end
end Go.Sx
