/- SessionNil: the argument: its 55 cells, and what its slices hold. -/
import Derived.Test.YtmkcndaidopkpaaGreatDoorNA
import Derived.Test.YtmkcndaidopkpaaGreatDoorL24d
import Derived.Deep.Slices
import Derived.Deep.Fields
import Derived.ChangeSlices
import Derived.WideKeyArgs
namespace Go.Proofs.YtmkcndaidopkpaaGreatDoor
open Go Go.ChangeShapes Go.WideShapes Go.ChangeAt Go.RowKit
section
variable {H : Type} {enc : TypeId × Value → H} {P : Program} {w : World} {base : Nat} {sp : Nat → Bool} {held : Bool}
theorem weights_mem : ∀ {ts : List TypeId} {ds : List (DataW H)} {i : Nat} {t : TypeId} {d : DataW H} {m : Nat}, ts[i]? = some t → ds[i]? = some d → m ∈ d.weights P t → m ∈ DataW.weightsEach P ts ds
  | [], _, i, _, _, _, ht, _, _ => by simp at ht
  | _ :: _, [], i, _, _, _, _, hd, _ => by simp at hd
  | t0 :: ts, d0 :: ds, i, t, d, m, ht, hd, hm => by
    unfold DataW.weightsEach
    rw [List.mem_append]
    cases i with
    | zero => simp at ht hd; subst ht; subst hd; exact .inl hm
    | succ i => exact .inr (weights_mem (i := i) (by simpa using ht) (by simpa using hd) hm)
theorem trod_part {t : TypeId} {fs : Array Field} {fuel : Nat} {cs : List Value} {x : DataW H × List MemPlace} (ht : P.underlying t = some (.struct fs)) (h : DataW.trod enc P w base sp held fuel t cs = some x) (i : Nat) (ty : TypeId) (off c : Nat)
    (hf : (fs[i]?).map (fun f => (f.type, f.offset)) = some (ty, off)) (hc : P.cellsOf ty = c) :
    ∃ (n : Nat) (y : DataW H × List MemPlace), DataW.trod enc P w base sp held n ty ((cs.drop off).take c) = some y ∧ ∀ m ∈ y.1.weights P ty, m ∈ x.1.weights P t := by
  obtain ⟨xs, n, _, rfl, _, hlen, hg⟩ := DataW.trod_struct ht h
  subst hc
  cases hf' : fs[i]? with
  | none => rw [hf'] at hf; cases hf
  | some f =>
    rw [hf'] at hf
    obtain ⟨rfl, rfl⟩ := Prod.mk.inj (Option.some.inj hf)
    have hi : i < fs.size := (Array.getElem?_eq_some_iff.1 hf').1
    have hx : xs[i]? = some (xs[i]'(by omega)) := List.getElem?_eq_getElem (by omega)
    refine ⟨n, _, (hg i f hf').trans hx, fun m hm => ?_⟩
    unfold DataW.weights
    rw [ht]
    exact weights_mem (i := i) (t := f.type) (d := (xs[i]'(by omega)).1) (by rw [List.getElem?_map, Array.getElem?_toList, hf']; rfl) (by rw [List.getElem?_map, hx]; rfl) hm
theorem cw_int {r : Reach} {t : TypeId} {v : Value} {k : IntKind} (ht : P.underlying t = some (.int k)) (h : Cell.okWide P w r base t v) : ∃ n, v = .int k n := by
  simp only [ht, Cell.okWide] at h
  cases v <;> simp_all [Cell.ok]
theorem cw_bool {r : Reach} {t : TypeId} {v : Value} (ht : P.underlying t = some .bool) (h : Cell.okWide P w r base t v) : ∃ b, v = .bool b := by
  simp only [ht, Cell.okWide] at h
  cases v <;> simp_all [Cell.ok]
theorem cw_string {r : Reach} {t : TypeId} {v : Value} (ht : P.underlying t = some .string) (h : Cell.okWide P w r base t v) : ∃ s, v = .string s := by
  simp only [ht, Cell.okWide] at h
  cases v <;> simp_all [Cell.ok]
def OwnPlace (w : World) (p : Option Addr) (l k : Nat) : Prop := (p = none ∧ l = 0 ∧ k = 0) ∨ ∃ b o : Nat, p = some ⟨b, o, none⟩ ∧ b < w.heap.size
theorem cw_slice {r : Reach} {t e : TypeId} {v : Value} (ht : P.underlying t = some (.slice e)) (h : Cell.okWide P w r base t v) : ∃ p l k, v = .slice p l k ∧ OwnPlace w p l k := by
  simp only [ht, Cell.okWide] at h
  cases v with
  | slice p l k =>
    refine ⟨p, l, k, rfl, ?_⟩
    rcases p with _ | ⟨b, o, s⟩
    · simp only [Cell.ok, ht] at h
      split at h <;> simp_all
      exact .inl ⟨rfl, rfl, rfl⟩
    · simp only [Cell.ok, ht] at h
      obtain ⟨-, -, -, hs, row, cells, hsh, -⟩ := h
      simp only at hs hsh
      subst hs
      refine .inr ⟨b, o, rfl, ?_⟩
      unfold World.shape? at hsh
      by_cases hb : b < w.heap.size
      · exact hb
      · simp_all
  | _ => simp [Cell.ok, ht] at h
theorem bytesOf5 : Tryz.prog.bytesOf 5 = 1 := by kernel_rfl
theorem bytesOf98 : Tryz.prog.bytesOf 98 = 56 := by kernel_rfl
theorem cellsOf5 : Tryz.prog.cellsOf 5 = 1 := by kernel_rfl
theorem cellsOf98 : Tryz.prog.cellsOf 98 = 5 := by kernel_rfl
theorem cellsOf9 : Tryz.prog.cellsOf 9 = 1 := by kernel_rfl
theorem cellsOf35 : Tryz.prog.cellsOf 35 = 1 := by kernel_rfl
theorem cellsOf37 : Tryz.prog.cellsOf 37 = 4 := by kernel_rfl
theorem cell_add (b o j : Nat) : (⟨b, o, Option.none⟩ : Addr).add j = ⟨b, o + j, Option.none⟩ := by
  unfold Addr.add; split <;> simp_all
theorem weigh {t e : TypeId} (ht : P.underlying t = some (.slice e)) (xs ys : List (DataW H)) : (xs.length + ys.length) * P.bytesOf e ∈ (DataW.slice xs ys).weights P t := by
  unfold DataW.weights
  rw [ht]
  exact List.mem_cons_self ..
theorem bytes_of {p : Option Addr} {l k n : Nat} {x : DataW H × List MemPlace} (hp : OwnPlace w p l k) (h : DataW.trod enc Tryz.prog w base (fun _ => true) held n 33 [.slice p l k] = some x) (hw : ∀ m ∈ x.1.weights Tryz.prog 33, m ≤ reachBytes) : BytesOk w p l k := by
  rcases open_ints Tryz.underlying33 Tryz.underlying5 cellsOf5 h with ⟨h0, rfl⟩ | ⟨a, len, cap, zs, h0, _, hl, _, hz, rfl, hc, _⟩
  · simp only [List.cons.injEq, Value.slice.injEq, and_true] at h0
    exact .inl h0
  · simp only [List.cons.injEq, Value.slice.injEq, and_true] at h0
    obtain ⟨rfl, rfl, rfl⟩ := h0
    rcases hp with ⟨hp, _⟩ | ⟨b, o, hp, hb⟩
    · cases hp
    · cases hp
      simp only [if_true] at hz
      have h1 := hw _ (weigh Tryz.underlying33 _ _)
      rw [bytesOf5, lits, lits, List.length_map, List.length_map, List.length_take, List.length_drop] at h1
      unfold reachBytes at h1
      refine .inr ⟨b, o, zs, rfl, hb, by omega, by omega, fun j hj => ?_⟩
      rw [← cell_add]
      exact hc j hj
theorem five {α : Type} : ∀ (cs : List α), cs.length = 5 → ∃ u0 u1 u2 u3 u4, cs = [u0, u1, u2, u3, u4]
  | [u0, u1, u2, u3, u4], _ => ⟨u0, u1, u2, u3, u4, rfl⟩
theorem mark_cells {n : Nat} {cs : List Value} {x : DataW H × List MemPlace} (h : DataW.trod enc Tryz.prog w base (fun _ => true) held n 98 cs = some x) : cs.length = 5 ∧ ∀ u ∈ cs, u.oneCell' = true := by
  obtain ⟨_, _, _, _, hlen, _, _⟩ := DataW.trod_struct Tryz.underlying98 h
  rw [cellsOf98] at hlen
  refine ⟨hlen, ?_⟩
  obtain ⟨u0, u1, u2, u3, u4, rfl⟩ := five cs hlen
  clear hlen
  obtain ⟨n0, y0, h0, _⟩ := trod_part Tryz.underlying98 h 0 9 0 1 rfl cellsOf9
  obtain ⟨n1, y1, h1, _⟩ := trod_part Tryz.underlying98 h 1 37 1 4 rfl cellsOf37
  obtain ⟨s0, e0, _⟩ := DataW.trod_string Tryz.underlying9 h0
  obtain ⟨_, _, g0, _⟩ := trod_part Tryz.underlying37 h1 0 5 0 1 rfl cellsOf5
  obtain ⟨_, _, g1, _⟩ := trod_part Tryz.underlying37 h1 1 35 1 1 rfl cellsOf35
  obtain ⟨_, _, g2, _⟩ := trod_part Tryz.underlying37 h1 2 35 2 1 rfl cellsOf35
  obtain ⟨_, _, g3, _⟩ := trod_part Tryz.underlying37 h1 3 9 3 1 rfl cellsOf9
  obtain ⟨_, f0, _⟩ := DataW.trod_int Tryz.underlying5 g0
  obtain ⟨_, f1, _⟩ := DataW.trod_int Tryz.underlying35 g1
  obtain ⟨_, f2, _⟩ := DataW.trod_int Tryz.underlying35 g2
  obtain ⟨_, f3, _⟩ := DataW.trod_string Tryz.underlying9 g3
  simp only [List.drop, List.take, List.cons.injEq, and_true] at e0 f0 f1 f2 f3
  subst e0; subst f0; subst f1; subst f2; subst f3
  intro u hu
  simp only [List.mem_cons, List.not_mem_nil, or_false] at hu
  rcases hu with rfl | rfl | rfl | rfl | rfl <;> rfl
theorem marks_of {p : Option Addr} {l k n : Nat} {x : DataW H × List MemPlace} (hp : OwnPlace w p l k) (h : DataW.trod enc Tryz.prog w base (fun _ => true) held n 34 [.slice p l k] = some x) (hw : ∀ m ∈ x.1.weights Tryz.prog 34, m ≤ reachBytes) : MarksOk w p l k := by
  rcases Deep.open_slice Tryz.underlying34 h with ⟨h0, rfl⟩ | ⟨a, len, cap, m, n', D, Pl, h0, _, hl, hm, hmm, rfl, hi⟩
  · simp only [List.cons.injEq, Value.slice.injEq, and_true] at h0
    exact .inl h0
  · simp only [List.cons.injEq, Value.slice.injEq, and_true] at h0
    obtain ⟨rfl, rfl, rfl⟩ := h0
    rcases hp with ⟨hp, _⟩ | ⟨b, o, hp, hb⟩
    · cases hp
    · cases hp
      simp only [if_true] at hmm
      subst hmm
      have h1 := hw _ (weigh Tryz.underlying34 _ _)
      rw [bytesOf98, List.length_map, List.length_map, List.length_range, List.length_range] at h1
      unfold reachBytes at h1
      have key : ∀ j, j < l * 5 → ∃ u, w.cell? ⟨b, o + j, Option.none⟩ = some u ∧ u.oneCell' = true := by
        intro j hj
        obtain ⟨cs', hcs, ht⟩ := hi (j / 5) (by omega)
        obtain ⟨hlen, hone⟩ := mark_cells ht
        obtain ⟨_, _, hat⟩ := World.cells?_some hcs
        rw [cellsOf98] at hat
        have h2 := hat (j % 5) (by omega)
        rw [cell_add, cell_add] at h2
        have h3 : cs'[j % 5]? = some (cs'[j % 5]'(by omega)) := List.getElem?_eq_getElem (by omega)
        refine ⟨_, (?_ : _ = _).trans (h2.trans h3), hone _ (List.getElem_mem _)⟩
        congr 2
        omega
      refine .inr ⟨b, o, (List.range (l * 5)).map fun j => (w.cell? ⟨b, o + j, Option.none⟩).getD .nilFunc, rfl, hb, by simp, fun j u hu => ?_, fun u hu => ?_, by omega, by omega⟩
      · rw [List.getElem?_map] at hu
        by_cases hj : j < l * 5
        · rw [List.getElem?_range hj] at hu
          obtain ⟨u', hu', _⟩ := key j hj
          rw [Option.map_some, hu', Option.getD_some] at hu
          rw [hu', hu]
        · rw [List.getElem?_eq_none (by simpa using hj)] at hu
          cases hu
      · obtain ⟨j, hj, rfl⟩ := List.mem_map.1 hu
        obtain ⟨u', hu', ho⟩ := key j (by simpa using hj)
        rw [hu']
        exact ho
theorem cellsOf79 : Tryz.prog.cellsOf 79 = 55 := by kernel_rfl
theorem cellsOf39 : Tryz.prog.cellsOf 39 = 38 := by kernel_rfl
theorem cellsOf77 : Tryz.prog.cellsOf 77 = 8 := by kernel_rfl
theorem cellsOf33 : Tryz.prog.cellsOf 33 = 1 := by kernel_rfl
theorem cellsOf34 : Tryz.prog.cellsOf 34 = 1 := by kernel_rfl
end
def op79 : List TypeId := [3, 3, 22, 9, 4, 5, 35, 35, 9, 9, 4, 4, 5, 35, 35, 9, 33, 5, 9, 9, 22, 26, 22, 3, 22, 22, 22, 22, 9, 3, 4, 5, 5, 9, 9, 34, 22, 2, 22, 4, 4, 2, 22, 9, 4, 4, 4, 4, 5, 35, 35, 9, 33, 4, 9]
set_option maxRecDepth 100000 in
theorem types79 : Tryz.prog.cellTypes Tryz.prog.depth 79 = some op79 := by kernel_rfl
theorem uncons {α : Type} {n : Nat} : ∀ (l : List α), l.length = n + 1 → ∃ x t, l = x :: t ∧ t.length = n
  | x :: t, h => ⟨x, t, rfl, by simpa using h⟩
theorem list55 {α : Type} (l : List α) (h : l.length = 55) : ∃ x0 x1 x2 x3 x4 x5 x6 x7 x8 x9 x10 x11 x12 x13 x14 x15 x16 x17 x18 x19 x20 x21 x22 x23 x24 x25 x26 x27 x28 x29 x30 x31 x32 x33 x34 x35 x36 x37 x38 x39 x40 x41 x42 x43 x44 x45 x46 x47 x48 x49 x50 x51 x52 x53 x54, l = [x0, x1, x2, x3, x4, x5, x6, x7, x8, x9, x10, x11, x12, x13, x14, x15, x16, x17, x18, x19, x20, x21, x22, x23, x24, x25, x26, x27, x28, x29, x30, x31, x32, x33, x34, x35, x36, x37, x38, x39, x40, x41, x42, x43, x44, x45, x46, x47, x48, x49, x50, x51, x52, x53, x54] := by
  obtain ⟨x0, l0, e0, h0⟩ := uncons (n := 54) l h
  obtain ⟨x1, l1, e1, h1⟩ := uncons (n := 53) l0 h0
  obtain ⟨x2, l2, e2, h2⟩ := uncons (n := 52) l1 h1
  obtain ⟨x3, l3, e3, h3⟩ := uncons (n := 51) l2 h2
  obtain ⟨x4, l4, e4, h4⟩ := uncons (n := 50) l3 h3
  obtain ⟨x5, l5, e5, h5⟩ := uncons (n := 49) l4 h4
  obtain ⟨x6, l6, e6, h6⟩ := uncons (n := 48) l5 h5
  obtain ⟨x7, l7, e7, h7⟩ := uncons (n := 47) l6 h6
  obtain ⟨x8, l8, e8, h8⟩ := uncons (n := 46) l7 h7
  obtain ⟨x9, l9, e9, h9⟩ := uncons (n := 45) l8 h8
  obtain ⟨x10, l10, e10, h10⟩ := uncons (n := 44) l9 h9
  obtain ⟨x11, l11, e11, h11⟩ := uncons (n := 43) l10 h10
  obtain ⟨x12, l12, e12, h12⟩ := uncons (n := 42) l11 h11
  obtain ⟨x13, l13, e13, h13⟩ := uncons (n := 41) l12 h12
  obtain ⟨x14, l14, e14, h14⟩ := uncons (n := 40) l13 h13
  obtain ⟨x15, l15, e15, h15⟩ := uncons (n := 39) l14 h14
  obtain ⟨x16, l16, e16, h16⟩ := uncons (n := 38) l15 h15
  obtain ⟨x17, l17, e17, h17⟩ := uncons (n := 37) l16 h16
  obtain ⟨x18, l18, e18, h18⟩ := uncons (n := 36) l17 h17
  obtain ⟨x19, l19, e19, h19⟩ := uncons (n := 35) l18 h18
  obtain ⟨x20, l20, e20, h20⟩ := uncons (n := 34) l19 h19
  obtain ⟨x21, l21, e21, h21⟩ := uncons (n := 33) l20 h20
  obtain ⟨x22, l22, e22, h22⟩ := uncons (n := 32) l21 h21
  obtain ⟨x23, l23, e23, h23⟩ := uncons (n := 31) l22 h22
  obtain ⟨x24, l24, e24, h24⟩ := uncons (n := 30) l23 h23
  obtain ⟨x25, l25, e25, h25⟩ := uncons (n := 29) l24 h24
  obtain ⟨x26, l26, e26, h26⟩ := uncons (n := 28) l25 h25
  obtain ⟨x27, l27, e27, h27⟩ := uncons (n := 27) l26 h26
  obtain ⟨x28, l28, e28, h28⟩ := uncons (n := 26) l27 h27
  obtain ⟨x29, l29, e29, h29⟩ := uncons (n := 25) l28 h28
  obtain ⟨x30, l30, e30, h30⟩ := uncons (n := 24) l29 h29
  obtain ⟨x31, l31, e31, h31⟩ := uncons (n := 23) l30 h30
  obtain ⟨x32, l32, e32, h32⟩ := uncons (n := 22) l31 h31
  obtain ⟨x33, l33, e33, h33⟩ := uncons (n := 21) l32 h32
  obtain ⟨x34, l34, e34, h34⟩ := uncons (n := 20) l33 h33
  obtain ⟨x35, l35, e35, h35⟩ := uncons (n := 19) l34 h34
  obtain ⟨x36, l36, e36, h36⟩ := uncons (n := 18) l35 h35
  obtain ⟨x37, l37, e37, h37⟩ := uncons (n := 17) l36 h36
  obtain ⟨x38, l38, e38, h38⟩ := uncons (n := 16) l37 h37
  obtain ⟨x39, l39, e39, h39⟩ := uncons (n := 15) l38 h38
  obtain ⟨x40, l40, e40, h40⟩ := uncons (n := 14) l39 h39
  obtain ⟨x41, l41, e41, h41⟩ := uncons (n := 13) l40 h40
  obtain ⟨x42, l42, e42, h42⟩ := uncons (n := 12) l41 h41
  obtain ⟨x43, l43, e43, h43⟩ := uncons (n := 11) l42 h42
  obtain ⟨x44, l44, e44, h44⟩ := uncons (n := 10) l43 h43
  obtain ⟨x45, l45, e45, h45⟩ := uncons (n := 9) l44 h44
  obtain ⟨x46, l46, e46, h46⟩ := uncons (n := 8) l45 h45
  obtain ⟨x47, l47, e47, h47⟩ := uncons (n := 7) l46 h46
  obtain ⟨x48, l48, e48, h48⟩ := uncons (n := 6) l47 h47
  obtain ⟨x49, l49, e49, h49⟩ := uncons (n := 5) l48 h48
  obtain ⟨x50, l50, e50, h50⟩ := uncons (n := 4) l49 h49
  obtain ⟨x51, l51, e51, h51⟩ := uncons (n := 3) l50 h50
  obtain ⟨x52, l52, e52, h52⟩ := uncons (n := 2) l51 h51
  obtain ⟨x53, l53, e53, h53⟩ := uncons (n := 1) l52 h52
  obtain ⟨x54, l54, e54, h54⟩ := uncons (n := 0) l53 h53
  have e55 := List.eq_nil_of_length_eq_zero h54
  subst e55; subst e54; subst e53; subst e52; subst e51; subst e50; subst e49; subst e48; subst e47; subst e46; subst e45; subst e44; subst e43; subst e42; subst e41; subst e40; subst e39; subst e38; subst e37; subst e36; subst e35; subst e34; subst e33; subst e32; subst e31; subst e30; subst e29; subst e28; subst e27; subst e26; subst e25; subst e24; subst e23; subst e22; subst e21; subst e20; subst e19; subst e18; subst e17; subst e16; subst e15; subst e14; subst e13; subst e12; subst e11; subst e10; subst e9; subst e8; subst e7; subst e6; subst e5; subst e4; subst e3; subst e2; subst e1; subst e0
  exact ⟨x0, x1, x2, x3, x4, x5, x6, x7, x8, x9, x10, x11, x12, x13, x14, x15, x16, x17, x18, x19, x20, x21, x22, x23, x24, x25, x26, x27, x28, x29, x30, x31, x32, x33, x34, x35, x36, x37, x38, x39, x40, x41, x42, x43, x44, x45, x46, x47, x48, x49, x50, x51, x52, x53, x54, rfl⟩
set_option maxRecDepth 100000 in
theorem row_at {W : World} {r : Reach} {base : Nat} {cs : Array Value} (h : Row.okWide Tryz.prog W r base 79 cs) (j : Nat) (hj : j < 55) (t : TypeId) (ht : op79[j]? = some t) (v : Value) (hv : cs[j]? = some v) : Cell.okWide Tryz.prog W r base t v := by
  unfold Row.okWide at h
  rw [types79] at h
  obtain ⟨ts, hts, -, hg⟩ := h
  obtain rfl := Option.some.inj hts
  obtain ⟨u, hu, hok⟩ := hg j v hv
  rw [show op79.length = 55 from rfl, Nat.mod_eq_of_lt hj, ht] at hu
  obtain rfl := Option.some.inj hu
  exact hok
set_option maxRecDepth 100000 in
theorem op_arg {H : Type} {enc : TypeId × Value → H} {W : World} {r : Reach} {base : Nat} {held : Bool} {v : Value} {d : DataW H} {ps : List MemPlace} (hv : Value.okWide Tryz.prog W r base 79 v) (hd : DataW.Trod enc Tryz.prog W 0 (fun _ => true) held 79 v d ps) (hw : ∀ m ∈ d.weights Tryz.prog 79, m ≤ reachBytes) :
    ∃ (c0 : Int) (c1 : Int) (c2 : Int) (c3 : ByteArray) (c4 : Bool) (c5 : Int) (c6 : Int) (c7 : Int) (c8 : ByteArray) (c9 : ByteArray) (c10 : Bool) (c11 : Bool) (c12 : Int) (c13 : Int) (c14 : Int) (c15 : ByteArray) (p16 : Option Addr) (l16 k16 : Nat) (c17 : Int) (c18 : ByteArray) (c19 : ByteArray) (c20 : Int) (c21 : Int) (c22 : Int) (c23 : Int) (c24 : Int) (c25 : Int) (c26 : Int) (c27 : Int) (c28 : ByteArray) (c29 : Int) (c30 : Bool) (c31 : Int) (c32 : Int) (c33 : ByteArray) (c34 : ByteArray) (p35 : Option Addr) (l35 k35 : Nat) (c36 : Int) (c37 : Int) (c38 : Int) (c39 : Bool) (c40 : Bool) (c41 : Int) (c42 : Int) (c43 : ByteArray) (c44 : Bool) (c45 : Bool) (c46 : Bool) (c47 : Bool) (c48 : Int) (c49 : Int) (c50 : Int) (c51 : ByteArray) (p52 : Option Addr) (l52 k52 : Nat) (c53 : Bool) (c54 : ByteArray), v = .agg #[.int .i64 c0, .int .i64 c1, .int .u32 c2, .string c3, .bool c4, .int .u8 c5, .int .u64 c6, .int .u64 c7, .string c8, .string c9, .bool c10, .bool c11, .int .u8 c12, .int .u64 c13, .int .u64 c14, .string c15, .slice p16 l16 k16, .int .u8 c17, .string c18, .string c19, .int .u32 c20, .int .u16 c21, .int .u32 c22, .int .i64 c23, .int .u32 c24, .int .u32 c25, .int .u32 c26, .int .u32 c27, .string c28, .int .i64 c29, .bool c30, .int .u8 c31, .int .u8 c32, .string c33, .string c34, .slice p35 l35 k35, .int .u32 c36, .int .i64 c37, .int .u32 c38, .bool c39, .bool c40, .int .i64 c41, .int .u32 c42, .string c43, .bool c44, .bool c45, .bool c46, .bool c47, .int .u8 c48, .int .u64 c49, .int .u64 c50, .string c51, .slice p52 l52 k52, .bool c53, .string c54] ∧ MarksOk W p35 l35 k35 ∧ BytesOk W p52 l52 k52 ∧ BytesOk W p16 l16 k16 := by
  unfold Value.okWide at hv
  rw [Tryz.underlying79] at hv
  obtain ⟨cs, rfl, hsz, hrow⟩ := hv
  rw [cellsOf79] at hsz
  obtain ⟨l⟩ := cs
  obtain ⟨x0, x1, x2, x3, x4, x5, x6, x7, x8, x9, x10, x11, x12, x13, x14, x15, x16, x17, x18, x19, x20, x21, x22, x23, x24, x25, x26, x27, x28, x29, x30, x31, x32, x33, x34, x35, x36, x37, x38, x39, x40, x41, x42, x43, x44, x45, x46, x47, x48, x49, x50, x51, x52, x53, x54, rfl⟩ := list55 l hsz
  clear hsz
  obtain ⟨c0, rfl⟩ := cw_int Tryz.underlying3 (row_at hrow 0 (by decide) 3 rfl _ rfl)
  obtain ⟨c1, rfl⟩ := cw_int Tryz.underlying3 (row_at hrow 1 (by decide) 3 rfl _ rfl)
  obtain ⟨c2, rfl⟩ := cw_int Tryz.underlying22 (row_at hrow 2 (by decide) 22 rfl _ rfl)
  obtain ⟨c3, rfl⟩ := cw_string Tryz.underlying9 (row_at hrow 3 (by decide) 9 rfl _ rfl)
  obtain ⟨c4, rfl⟩ := cw_bool Tryz.underlying4 (row_at hrow 4 (by decide) 4 rfl _ rfl)
  obtain ⟨c5, rfl⟩ := cw_int Tryz.underlying5 (row_at hrow 5 (by decide) 5 rfl _ rfl)
  obtain ⟨c6, rfl⟩ := cw_int Tryz.underlying35 (row_at hrow 6 (by decide) 35 rfl _ rfl)
  obtain ⟨c7, rfl⟩ := cw_int Tryz.underlying35 (row_at hrow 7 (by decide) 35 rfl _ rfl)
  obtain ⟨c8, rfl⟩ := cw_string Tryz.underlying9 (row_at hrow 8 (by decide) 9 rfl _ rfl)
  obtain ⟨c9, rfl⟩ := cw_string Tryz.underlying9 (row_at hrow 9 (by decide) 9 rfl _ rfl)
  obtain ⟨c10, rfl⟩ := cw_bool Tryz.underlying4 (row_at hrow 10 (by decide) 4 rfl _ rfl)
  obtain ⟨c11, rfl⟩ := cw_bool Tryz.underlying4 (row_at hrow 11 (by decide) 4 rfl _ rfl)
  obtain ⟨c12, rfl⟩ := cw_int Tryz.underlying5 (row_at hrow 12 (by decide) 5 rfl _ rfl)
  obtain ⟨c13, rfl⟩ := cw_int Tryz.underlying35 (row_at hrow 13 (by decide) 35 rfl _ rfl)
  obtain ⟨c14, rfl⟩ := cw_int Tryz.underlying35 (row_at hrow 14 (by decide) 35 rfl _ rfl)
  obtain ⟨c15, rfl⟩ := cw_string Tryz.underlying9 (row_at hrow 15 (by decide) 9 rfl _ rfl)
  obtain ⟨p16, l16, k16, rfl, q16⟩ := cw_slice Tryz.underlying33 (row_at hrow 16 (by decide) 33 rfl _ rfl)
  obtain ⟨c17, rfl⟩ := cw_int Tryz.underlying5 (row_at hrow 17 (by decide) 5 rfl _ rfl)
  obtain ⟨c18, rfl⟩ := cw_string Tryz.underlying9 (row_at hrow 18 (by decide) 9 rfl _ rfl)
  obtain ⟨c19, rfl⟩ := cw_string Tryz.underlying9 (row_at hrow 19 (by decide) 9 rfl _ rfl)
  obtain ⟨c20, rfl⟩ := cw_int Tryz.underlying22 (row_at hrow 20 (by decide) 22 rfl _ rfl)
  obtain ⟨c21, rfl⟩ := cw_int Tryz.underlying26 (row_at hrow 21 (by decide) 26 rfl _ rfl)
  obtain ⟨c22, rfl⟩ := cw_int Tryz.underlying22 (row_at hrow 22 (by decide) 22 rfl _ rfl)
  obtain ⟨c23, rfl⟩ := cw_int Tryz.underlying3 (row_at hrow 23 (by decide) 3 rfl _ rfl)
  obtain ⟨c24, rfl⟩ := cw_int Tryz.underlying22 (row_at hrow 24 (by decide) 22 rfl _ rfl)
  obtain ⟨c25, rfl⟩ := cw_int Tryz.underlying22 (row_at hrow 25 (by decide) 22 rfl _ rfl)
  obtain ⟨c26, rfl⟩ := cw_int Tryz.underlying22 (row_at hrow 26 (by decide) 22 rfl _ rfl)
  obtain ⟨c27, rfl⟩ := cw_int Tryz.underlying22 (row_at hrow 27 (by decide) 22 rfl _ rfl)
  obtain ⟨c28, rfl⟩ := cw_string Tryz.underlying9 (row_at hrow 28 (by decide) 9 rfl _ rfl)
  obtain ⟨c29, rfl⟩ := cw_int Tryz.underlying3 (row_at hrow 29 (by decide) 3 rfl _ rfl)
  obtain ⟨c30, rfl⟩ := cw_bool Tryz.underlying4 (row_at hrow 30 (by decide) 4 rfl _ rfl)
  obtain ⟨c31, rfl⟩ := cw_int Tryz.underlying5 (row_at hrow 31 (by decide) 5 rfl _ rfl)
  obtain ⟨c32, rfl⟩ := cw_int Tryz.underlying5 (row_at hrow 32 (by decide) 5 rfl _ rfl)
  obtain ⟨c33, rfl⟩ := cw_string Tryz.underlying9 (row_at hrow 33 (by decide) 9 rfl _ rfl)
  obtain ⟨c34, rfl⟩ := cw_string Tryz.underlying9 (row_at hrow 34 (by decide) 9 rfl _ rfl)
  obtain ⟨p35, l35, k35, rfl, q35⟩ := cw_slice Tryz.underlying34 (row_at hrow 35 (by decide) 34 rfl _ rfl)
  obtain ⟨c36, rfl⟩ := cw_int Tryz.underlying22 (row_at hrow 36 (by decide) 22 rfl _ rfl)
  obtain ⟨c37, rfl⟩ := cw_int Tryz.underlying2 (row_at hrow 37 (by decide) 2 rfl _ rfl)
  obtain ⟨c38, rfl⟩ := cw_int Tryz.underlying22 (row_at hrow 38 (by decide) 22 rfl _ rfl)
  obtain ⟨c39, rfl⟩ := cw_bool Tryz.underlying4 (row_at hrow 39 (by decide) 4 rfl _ rfl)
  obtain ⟨c40, rfl⟩ := cw_bool Tryz.underlying4 (row_at hrow 40 (by decide) 4 rfl _ rfl)
  obtain ⟨c41, rfl⟩ := cw_int Tryz.underlying2 (row_at hrow 41 (by decide) 2 rfl _ rfl)
  obtain ⟨c42, rfl⟩ := cw_int Tryz.underlying22 (row_at hrow 42 (by decide) 22 rfl _ rfl)
  obtain ⟨c43, rfl⟩ := cw_string Tryz.underlying9 (row_at hrow 43 (by decide) 9 rfl _ rfl)
  obtain ⟨c44, rfl⟩ := cw_bool Tryz.underlying4 (row_at hrow 44 (by decide) 4 rfl _ rfl)
  obtain ⟨c45, rfl⟩ := cw_bool Tryz.underlying4 (row_at hrow 45 (by decide) 4 rfl _ rfl)
  obtain ⟨c46, rfl⟩ := cw_bool Tryz.underlying4 (row_at hrow 46 (by decide) 4 rfl _ rfl)
  obtain ⟨c47, rfl⟩ := cw_bool Tryz.underlying4 (row_at hrow 47 (by decide) 4 rfl _ rfl)
  obtain ⟨c48, rfl⟩ := cw_int Tryz.underlying5 (row_at hrow 48 (by decide) 5 rfl _ rfl)
  obtain ⟨c49, rfl⟩ := cw_int Tryz.underlying35 (row_at hrow 49 (by decide) 35 rfl _ rfl)
  obtain ⟨c50, rfl⟩ := cw_int Tryz.underlying35 (row_at hrow 50 (by decide) 35 rfl _ rfl)
  obtain ⟨c51, rfl⟩ := cw_string Tryz.underlying9 (row_at hrow 51 (by decide) 9 rfl _ rfl)
  obtain ⟨p52, l52, k52, rfl, q52⟩ := cw_slice Tryz.underlying33 (row_at hrow 52 (by decide) 33 rfl _ rfl)
  obtain ⟨c53, rfl⟩ := cw_bool Tryz.underlying4 (row_at hrow 53 (by decide) 4 rfl _ rfl)
  obtain ⟨c54, rfl⟩ := cw_string Tryz.underlying9 (row_at hrow 54 (by decide) 9 rfl _ rfl)
  clear hrow
  obtain ⟨fuel, hf⟩ := hd
  obtain ⟨_, yP, hP, wP⟩ := trod_part Tryz.underlying79 hf 7 39 17 38 rfl cellsOf39
  obtain ⟨_, yO, hO, wO⟩ := trod_part Tryz.underlying79 hf 6 77 9 8 rfl cellsOf77
  obtain ⟨_, yM, hM, wM⟩ := trod_part Tryz.underlying39 hP 18 34 18 1 rfl cellsOf34
  obtain ⟨_, yB, hB, wB⟩ := trod_part Tryz.underlying39 hP 32 33 35 1 rfl cellsOf33
  obtain ⟨_, yQ, hQ, wQ⟩ := trod_part Tryz.underlying77 hO 4 33 7 1 rfl cellsOf33
  exact ⟨c0, c1, c2, c3, c4, c5, c6, c7, c8, c9, c10, c11, c12, c13, c14, c15, p16, l16, k16, c17, c18, c19, c20, c21, c22, c23, c24, c25, c26, c27, c28, c29, c30, c31, c32, c33, c34, p35, l35, k35, c36, c37, c38, c39, c40, c41, c42, c43, c44, c45, c46, c47, c48, c49, c50, c51, p52, l52, k52, c53, c54, rfl, marks_of q35 hM (fun m hm => hw m (wP m (wM m hm))), bytes_of q52 hB (fun m hm => hw m (wP m (wB m hm))), bytes_of q16 hQ (fun m hm => hw m (wO m (wQ m hm)))⟩
end Go.Proofs.YtmkcndaidopkpaaGreatDoor
