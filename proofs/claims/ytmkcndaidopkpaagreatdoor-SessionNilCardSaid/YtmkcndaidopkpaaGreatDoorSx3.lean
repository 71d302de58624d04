/- Small facts about the machine's data: names, trees, lists, and what the destructors tell. -/
import Derived.Test.YtmkcndaidopkpaaGreatDoorSx2
namespace Go.Sx

/-! ## names -/
def K.toNat : K → Nat
  | .e => 0
  | .a k => 4 * k.toNat + 1
  | .b k => 4 * k.toNat + 2
  | .c k => 4 * k.toNat + 3
  | .d k => 4 * k.toNat + 4

theorem K.succ_e : K.succ .e = .a .e := rfl
theorem K.succ_a (k : K) : K.succ (.a k) = .b k := rfl
theorem K.succ_b (k : K) : K.succ (.b k) = .c k := rfl
theorem K.succ_c (k : K) : K.succ (.c k) = .d k := rfl
theorem K.succ_d (k : K) : K.succ (.d k) = .a k.succ := rfl

theorem K.toNat_succ : ∀ k : K, k.succ.toNat = k.toNat + 1
  | .e => rfl
  | .a k => by simp [K.succ_a, K.toNat]
  | .b k => by simp [K.succ_b, K.toNat]
  | .c k => by simp [K.succ_c, K.toNat]
  | .d k => by rw [K.succ_d]; simp only [K.toNat, K.toNat_succ k]; omega

theorem K.toNat_inj : ∀ {j k : K}, j.toNat = k.toNat → j = k := by
  intro j
  induction j with
  | e => intro k h; cases k <;> simp only [K.toNat] at h <;> first | rfl | omega
  | a j ih => intro k h; cases k <;> simp only [K.toNat] at h <;> first | omega | exact congrArg K.a (ih (by omega))
  | b j ih => intro k h; cases k <;> simp only [K.toNat] at h <;> first | omega | exact congrArg K.b (ih (by omega))
  | c j ih => intro k h; cases k <;> simp only [K.toNat] at h <;> first | omega | exact congrArg K.c (ih (by omega))
  | d j ih => intro k h; cases k <;> simp only [K.toNat] at h <;> first | omega | exact congrArg K.d (ih (by omega))

theorem K.eq_true : ∀ {j k : K}, K.eq j k = true → j = k := by
  intro j
  induction j with
  | e => intro k h; cases k <;> first | rfl | (exact absurd h (by intro h; cases h))
  | a j ih => intro k h; cases k <;> first | (exact congrArg K.a (ih h)) | (exact absurd h (by intro h; cases h))
  | b j ih => intro k h; cases k <;> first | (exact congrArg K.b (ih h)) | (exact absurd h (by intro h; cases h))
  | c j ih => intro k h; cases k <;> first | (exact congrArg K.c (ih h)) | (exact absurd h (by intro h; cases h))
  | d j ih => intro k h; cases k <;> first | (exact congrArg K.d (ih h)) | (exact absurd h (by intro h; cases h))

theorem K.eq_refl : ∀ k : K, K.eq k k = true := by
  intro k
  induction k with
  | e => rfl
  | a j ih => exact ih
  | b j ih => exact ih
  | c j ih => exact ih
  | d j ih => exact ih

theorem K.eq_false {j k : K} (h : K.eq j k = false) : j ≠ k := by
  rintro rfl
  rw [K.eq_refl] at h
  cases h

theorem kOfN_toNat : ∀ f n, n ≤ f → (kOfN f n).toNat = n := by
  intro f
  induction f with
  | zero => intro n h; have : n = 0 := by omega
            subst this; rfl
  | succ f ih =>
    intro n h
    cases n with
    | zero => rfl
    | succ m =>
      have hm : m / 4 ≤ f := by omega
      have h4 : m % 4 = 0 ∨ m % 4 = 1 ∨ m % 4 = 2 ∨ m % 4 = 3 := by omega
      rcases h4 with h4 | h4 | h4 | h4 <;> simp only [kOfN, h4, K.toNat, ih _ hm] <;> omega

theorem kOf_toNat (n : Nat) : (kOf n).toNat = n := kOfN_toNat n n (Nat.le_refl n)
theorem kOf_inj {m n : Nat} (h : kOf m = kOf n) : m = n := by
  have := congrArg K.toNat h
  rwa [kOf_toNat, kOf_toNat] at this
theorem kOf_zero : kOf 0 = .e := rfl
theorem kOf_succ (n : Nat) : kOf (n + 1) = (kOf n).succ := K.toNat_inj (by rw [K.toNat_succ, kOf_toNat, kOf_toNat])

theorem skip_toNat : ∀ n k, (skip n k).toNat = k.toNat + n
  | 0, _ => rfl
  | n + 1, k => by simp only [skip, K.toNat_succ, skip_toNat n k]; omega

/-! ## trees -/
namespace Tr
variable {α : Type}
theorem get_e (t : Tr α) : get .e t = here t := rfl
theorem get_a (k : K) (t : Tr α) : get (.a k) t = get k (tp t) := rfl
theorem get_b (k : K) (t : Tr α) : get (.b k) t = get k (tq t) := rfl
theorem get_c (k : K) (t : Tr α) : get (.c k) t = get k (tr t) := rfl
theorem get_d (k : K) (t : Tr α) : get (.d k) t = get k (ts t) := rfl
theorem get_leaf : ∀ k : K, get k (leaf : Tr α) = none := by
  intro k
  induction k with
  | e => rfl
  | a j ih => exact ih
  | b j ih => exact ih
  | c j ih => exact ih
  | d j ih => exact ih

theorem set_e (x : Option α) (t : Tr α) : set .e x t = node x (tp t) (tq t) (tr t) (ts t) := by cases t <;> rfl
theorem set_a (k : K) (x : Option α) (t : Tr α) : set (.a k) x t = node (here t) (set k x (tp t)) (tq t) (tr t) (ts t) := by cases t <;> rfl
theorem set_b (k : K) (x : Option α) (t : Tr α) : set (.b k) x t = node (here t) (tp t) (set k x (tq t)) (tr t) (ts t) := by cases t <;> rfl
theorem set_c (k : K) (x : Option α) (t : Tr α) : set (.c k) x t = node (here t) (tp t) (tq t) (set k x (tr t)) (ts t) := by cases t <;> rfl
theorem set_d (k : K) (x : Option α) (t : Tr α) : set (.d k) x t = node (here t) (tp t) (tq t) (tr t) (set k x (ts t)) := by cases t <;> rfl

theorem get_set_same : ∀ (k : K) (x : Option α) (t : Tr α), get k (set k x t) = x := by
  intro k
  induction k with
  | e => intro x t; rw [set_e]; rfl
  | a j ih => intro x t; rw [set_a]; exact ih x _
  | b j ih => intro x t; rw [set_b]; exact ih x _
  | c j ih => intro x t; rw [set_c]; exact ih x _
  | d j ih => intro x t; rw [set_d]; exact ih x _

theorem get_set_ne : ∀ (k j : K) (x : Option α) (t : Tr α), j ≠ k → get j (set k x t) = get j t := by
  intro k
  induction k with
  | e => intro j x t h; rw [set_e]; cases j <;> first | rfl | exact absurd rfl h
  | a k ih => intro j x t h; rw [set_a]; cases j with
    | a j => exact ih j x _ (fun e => h (by rw [e]))
    | _ => rfl
  | b k ih => intro j x t h; rw [set_b]; cases j with
    | b j => exact ih j x _ (fun e => h (by rw [e]))
    | _ => rfl
  | c k ih => intro j x t h; rw [set_c]; cases j with
    | c j => exact ih j x _ (fun e => h (by rw [e]))
    | _ => rfl
  | d k ih => intro j x t h; rw [set_d]; cases j with
    | d j => exact ih j x _ (fun e => h (by rw [e]))
    | _ => rfl
end Tr

namespace Hp
theorem get_put_same (H : Hp) (x : K) (o : AObj) : (H.put x o).get x = some o := Tr.get_set_same _ _ _
theorem get_put_ne (H : Hp) {x y : K} (o : AObj) (h : y ≠ x) : (H.put x o).get y = H.get y := Tr.get_set_ne _ _ _ _ h
theorem get_kill_same (H : Hp) (x : K) : (H.kill x).get x = none := Tr.get_set_same _ _ _
theorem get_kill_ne (H : Hp) {x y : K} (h : y ≠ x) : (H.kill x).get y = H.get y := Tr.get_set_ne _ _ _ _ h
theorem get_new_same (H : Hp) (o : AObj) : (H.new o).get H.next = some o := Tr.get_set_same _ _ _
theorem get_new_ne (H : Hp) {y : K} (o : AObj) (h : y ≠ H.next) : (H.new o).get y = H.get y := Tr.get_set_ne _ _ _ _ h
theorem next_put (H : Hp) (x : K) (o : AObj) : (H.put x o).next = H.next := rfl
theorem next_kill (H : Hp) (x : K) : (H.kill x).next = H.next := rfl
theorem next_new (H : Hp) (o : AObj) : (H.new o).next = H.next.succ := rfl
end Hp

/-! ## lists -/
theorem nth_eq : ∀ (l : List AV) (n : Nat), nth l n = l[n]?
  | [], n => by cases n <;> rfl
  | x :: r, 0 => rfl
  | x :: r, n + 1 => by
    show nth r n = _
    rw [nth_eq r n]; simp
theorem len_eq : ∀ l : List AV, len l = l.length
  | [] => rfl
  | x :: r => by show Nat.succ (len r) = _; rw [len_eq r]; rfl
theorem consO_some {y : AV} {o : Option (List AV)} {q : List AV} (h : consO y o = some q) : ∃ z, o = some z ∧ q = y :: z := by
  cases o with
  | none => cases h
  | some z => cases h; exact ⟨z, rfl, rfl⟩
theorem takeN_some : ∀ (n : Nat) (l q : List AV), takeN n l = some q → q = l.take n ∧ n ≤ l.length
  | 0, l, q, h => by cases h; simp
  | n + 1, [], q, h => by cases h
  | n + 1, x :: r, q, h => by
    obtain ⟨z, hz, rfl⟩ := consO_some h
    obtain ⟨rfl, hl⟩ := takeN_some n r z hz
    exact ⟨by simp, by simp; omega⟩
theorem dropN_some : ∀ (n : Nat) (l q : List AV), dropN n l = some q → q = l.drop n ∧ n ≤ l.length
  | 0, l, q, h => by cases h; simp
  | n + 1, [], q, h => by cases h
  | n + 1, x :: r, q, h => by
    obtain ⟨rfl, hl⟩ := dropN_some n r q h
    exact ⟨by simp, by simp; omega⟩
theorem part_some {l q : List AV} {off n : Nat} (h : part l off n = some q) : q = (l.drop off).take n ∧ off + n ≤ l.length := by
  cases hd : dropN off l with
  | none => simp [part, hd] at h
  | some r =>
    have h' : takeN n r = some q := by simpa [part, hd] using h
    obtain ⟨rfl, h1⟩ := dropN_some _ _ _ hd
    obtain ⟨rfl, h2⟩ := takeN_some _ _ _ h'
    refine ⟨rfl, ?_⟩
    simp at h2
    omega
theorem part_len {l q : List AV} {off n : Nat} (h : part l off n = some q) : q.length = n := by
  obtain ⟨rfl, h2⟩ := part_some h
  simp; omega
theorem part_get {l q : List AV} {off n k : Nat} (h : part l off n = some q) (hk : k < n) : q[k]? = l[off + k]? := by
  obtain ⟨rfl, h2⟩ := part_some h
  rw [List.getElem?_take_of_lt hk, List.getElem?_drop]
theorem over_some : ∀ (q l z : List AV), over q l = some z → z = q ++ l.drop q.length ∧ q.length ≤ l.length
  | [], l, z, h => by cases h; simp
  | y :: q, [], z, h => by cases h
  | y :: q, x :: l, z, h => by
    obtain ⟨u, hu, rfl⟩ := consO_some h
    obtain ⟨rfl, hl⟩ := over_some q l u hu
    exact ⟨by simp, by simp; omega⟩
theorem splice_some : ∀ (l : List AV) (off : Nat) (q z : List AV), splice l off q = some z →
    z = l.take off ++ q ++ l.drop (off + q.length) ∧ off + q.length ≤ l.length
  | l, 0, q, z, h => by
    obtain ⟨rfl, hl⟩ := over_some q l z h
    exact ⟨by simp, by omega⟩
  | [], n + 1, q, z, h => by cases h
  | x :: l, n + 1, q, z, h => by
    obtain ⟨u, hu, rfl⟩ := consO_some h
    obtain ⟨rfl, hl⟩ := splice_some l n q u hu
    refine ⟨?_, by simp; omega⟩
    have : n + 1 + q.length = (n + q.length) + 1 := by omega
    simp [this]
theorem splice_len {l q z : List AV} {off : Nat} (h : splice l off q = some z) : z.length = l.length := by
  obtain ⟨rfl, h2⟩ := splice_some _ _ _ _ h
  simp; omega
theorem splice_get {l q z : List AV} {off k : Nat} (h : splice l off q = some z) :
    z[k]? = if off ≤ k ∧ k < off + q.length then q[k - off]? else l[k]? := by
  obtain ⟨rfl, h2⟩ := splice_some _ _ _ _ h
  split
  · rename_i hk
    rw [List.append_assoc, List.getElem?_append_right (by simp; omega), List.getElem?_append_left (by simp; omega)]
    congr 1; simp; omega
  · rename_i hk
    by_cases h1 : k < off
    · rw [List.append_assoc, List.getElem?_append_left (by simp; omega), List.getElem?_take_of_lt h1]
    · rw [List.getElem?_append_right (by simp; omega), List.getElem?_drop]
      congr 1; simp; omega
theorem allB_true {p : AV → Bool} : ∀ {l : List AV}, allB p l = true → ∀ x ∈ l, p x = true
  | [], _, x, hx => by cases hx
  | y :: r, h, x, hx => by
    have hy : p y = true := by
      cases hp : p y with
      | true => rfl
      | false =>
        have : allB p (y :: r) = false := by show @Bool.rec (fun _ => Bool) false (allB p r) (p y) = false; rw [hp]
        rw [this] at h; cases h
    have hr : allB p r = true := by
      have : allB p (y :: r) = allB p r := by show @Bool.rec (fun _ => Bool) false (allB p r) (p y) = _; rw [hp_eq hy]
      rw [this] at h; exact h
    cases hx with
    | head => exact hy
    | tail _ hx => exact allB_true hr x hx
  where hp_eq {b : Bool} (h : b = true) : b = true := h

/-! ## destructors -/
theorem asBool_some {v : AV} {b : Bool} (h : asBool v = some b) : v = .bool b := by cases v <;> cases h; rfl
theorem asInt_some {v : AV} {k : IntKind} {n : Int} (h : asInt v = some (k, n)) : v = .int k n := by cases v <;> cases h; rfl
theorem asStr_some {v : AV} {s : List Nat} (h : asStr v = some s) : v = .str s := by cases v <;> cases h; rfl
theorem asPtr_some {v : AV} {x : K} {o : Nat} (h : asPtr v = some (x, o)) : v = .ptr x o := by cases v <;> cases h; rfl
theorem asSl_some {v : AV} {s : Sl} (h : asSl v = some s) : v = .sl s.x s.off s.len s.cap s.es s.opn := by cases v <;> cases h; rfl
theorem asAgg_some {v : AV} {l : List AV} (h : asAgg v = some l) : v = .agg l := by cases v <;> cases h; rfl
theorem asTup_some {v : AV} {l : List AV} (h : asTup v = some l) : v = .tup l := by cases v <;> cases h; rfl
theorem cellsIn_some {o : Option AObj} {l : List AV} {s : Bool} (h : cellsIn o = some (l, s)) : o = some (.cells l s) := by
  cases o with
  | none => cases h
  | some o => cases o <;> cases h; rfl
theorem natOf_some {v : AV} {n : Nat} (h : natOf v = some n) : ∃ k, v = .int k (.ofNat n) := by
  unfold natOf at h
  split at h
  · rename_i k m hi
    cases h
    exact ⟨_, asInt_some hi⟩
  · cases h

theorem notB_eq (b : Bool) : notB b = !b := by cases b <;> rfl
theorem sameB_eq (a b : Bool) : sameB a b = (a == b) := by cases a <;> cases b <;> rfl
theorem beq_nat (a b : Nat) : Nat.beq a b = decide (a = b) := by
  cases h : Nat.beq a b with
  | true => have := Nat.eq_of_beq_eq_true h; simp [this]
  | false => have := Nat.ne_of_beq_eq_false h; simp [this]
theorem ble_nat (a b : Nat) : Nat.ble a b = decide (a ≤ b) := by
  cases h : Nat.ble a b with
  | true => have := Nat.le_of_ble_eq_true h; simp [this]
  | false => have : ¬ a ≤ b := fun hle => by rw [Nat.ble_eq_true_of_le hle] at h; cases h
             simp [this]
theorem eqI_eq (a b : Int) : eqI a b = (a == b) := by
  cases a with
  | ofNat m => cases b with
    | ofNat n =>
      show Nat.beq m n = _
      rw [beq_nat]
      by_cases h : m = n
      · subst h; simp
      · rw [decide_eq_false h]; symm; rw [beq_eq_false_iff_ne]; intro e; apply h; injection e
    | negSucc n => rfl
  | negSucc m => cases b with
    | ofNat n => rfl
    | negSucc n =>
      show Nat.beq m n = _
      rw [beq_nat]
      by_cases h : m = n
      · subst h; simp
      · rw [decide_eq_false h]; symm; rw [beq_eq_false_iff_ne]; intro e; apply h; injection e
theorem ltI_eq (a b : Int) : ltI a b = decide (a < b) := by
  cases a with
  | ofNat m => cases b with
    | ofNat n =>
      show Nat.ble (Nat.succ m) n = _
      rw [ble_nat]
      exact decide_eq_decide.2 (by simp only [Int.ofNat_eq_natCast]; omega)
    | negSucc n => 
      show false = _
      exact (decide_eq_false (by simp only [Int.ofNat_eq_natCast]; omega)).symm
  | negSucc m => cases b with
    | ofNat n => 
      show true = _
      exact (decide_eq_true (by simp only [Int.ofNat_eq_natCast]; omega)).symm
    | negSucc n =>
      show Nat.ble (Nat.succ n) m = _
      rw [ble_nat]
      exact decide_eq_decide.2 (by omega)
theorem eqL_eq : ∀ a b : List Nat, eqL a b = (a == b)
  | [], [] => rfl
  | [], _ :: _ => rfl
  | _ :: _, [] => rfl
  | x :: r, y :: q => by
    have h : eqL (x :: r) (y :: q) = @Bool.rec (fun _ => Bool) false (eqL r q) (Nat.beq x y) := rfl
    rw [h, eqL_eq r q]
    cases hb : Nat.beq x y with
    | true => have := Nat.eq_of_beq_eq_true hb; subst this; simp
    | false =>
      have hne : x ≠ y := Nat.ne_of_beq_eq_false hb
      simp [hne]
theorem kNat_inj {j k : IntKind} (h : Nat.beq (kNat j) (kNat k) = true) : j = k := by
  cases j <;> cases k <;> first | rfl | cases h

theorem maxN_spec (k : IntKind) (m : Nat) (h : m ≤ maxN k) : k.wrap (.ofNat m) = .ofNat m := by
  have e : (Int.ofNat m) = (m : Int) := rfl
  rw [e]
  unfold IntKind.wrap
  cases k <;> simp [IntKind.bits, IntKind.signed, maxN] at * <;> omega
theorem wrap_eq (k : IntKind) (n : Int) : wrap k n = k.wrap n := by
  cases n with
  | negSucc m => rfl
  | ofNat m =>
    have h : wrap k (.ofNat m) = @Bool.rec (fun _ => Int) (k.wrap (.ofNat m)) (.ofNat m) (Nat.ble m (maxN k)) := rfl
    rw [h]
    cases hb : Nat.ble m (maxN k) with
    | false => rfl
    | true => exact (maxN_spec k m (Nat.le_of_ble_eq_true hb)).symm

end Go.Sx
