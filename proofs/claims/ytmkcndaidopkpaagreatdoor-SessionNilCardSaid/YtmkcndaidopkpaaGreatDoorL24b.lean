/- What is laid when a call begins is the machine's heap; and behind the call each block is as it was. -/
import Derived.Test.YtmkcndaidopkpaaGreatDoorL24
namespace Go.Sx
open Go.Proofs Go.Proofs.YtmkcndaidopkpaaGreatDoor Go.ChangeShapes Go.WideShapes
noncomputable section

noncomputable def laid2 : List (String × DataW Unit) := [("bellwether/encode.codes", Rows.laid_bellwether_encode_codes), ("bellwether/session.what", Rows.laid_bellwether_session_what)]
theorem gWhat : Tryz.prog.globalNamed "bellwether/session.what" = some 0 := by kernel_rfl
theorem gCodes : Tryz.prog.globalNamed "bellwether/encode.codes" = some 1 := by kernel_rfl
theorem tWhat : (Tryz.prog.globals[0]?).map (·.type) = some 135 := by kernel_rfl
theorem tCodes : (Tryz.prog.globals[1]?).map (·.type) = some 374 := by kernel_rfl
theorem u135 : Tryz.prog.underlying 135 = some (.map 5 133) := by kernel_rfl
theorem u374 : Tryz.prog.underlying 374 = some (.map 5 5) := by kernel_rfl
theorem u5 : Tryz.prog.underlying 5 = some (.int .u8) := by kernel_rfl
theorem u133 : ∃ ps rs va, Tryz.prog.underlying 133 = some (.func ps rs va) := by
  have : (match Tryz.prog.underlying 133 with | some (.func ..) => true | _ => false) = true := by kernel_rfl
  split at this
  · rename_i h; exact ⟨_, _, _, h⟩
  · cases this
theorem rowWhat : ((begin Tryz.prog (fun _ _ => 0) default).world.heap[0]?).bind Obj.row? = some (#[.map none], 135) := by kernel_rfl
theorem rowCodes : ((begin Tryz.prog (fun _ _ => 0) default).world.heap[1]?).bind Obj.row? = some (#[.map none], 374) := by kernel_rfl

noncomputable def bytesF (f : Nat) : List UInt8 := match Tryz.prog.funcs[f]? with | some fn => fn.name.toUTF8.data.toList | none => []
noncomputable def datW : AV → DataW (List UInt8)
  | .func (.func f) _ _ => .held (bytesF f)
  | _ => .nil
noncomputable def whatD : List (Lit × DataW (List UInt8)) := match (match Rows.laid_bellwether_session_what (H := Unit) with | .iface _ d => d.funcsOut | _ => .nil) with | .map l => l | _ => []
theorem what_is : whatD = what24.map fun q => (.int .u8 (.ofNat q.1), datW q.2) := by kernel_rfl
theorem one_of (f : Nat) (h : f ∈ [322, 324, 325, 326, 323, 327]) : ∃ b r, bytesF f = b :: r ∧ ((List.range Tryz.prog.funcs.size).filter fun g => (Tryz.prog.funcs[g]?).any (·.name.toUTF8.data.toList == b :: r)) = [f] := by
  simp only [List.mem_cons, List.not_mem_nil, or_false] at h
  rcases h with rfl | rfl | rfl | rfl | rfl | rfl
  · exact ⟨40, (bytesF 322).tail, by kernel_rfl, by kernel_rfl⟩
  · exact ⟨40, (bytesF 324).tail, by kernel_rfl, by kernel_rfl⟩
  · exact ⟨40, (bytesF 325).tail, by kernel_rfl, by kernel_rfl⟩
  · exact ⟨40, (bytesF 326).tail, by kernel_rfl, by kernel_rfl⟩
  · exact ⟨40, (bytesF 323).tail, by kernel_rfl, by kernel_rfl⟩
  · exact ⟨40, (bytesF 327).tail, by kernel_rfl, by kernel_rfl⟩
theorem func_at {W : World} {base n : Nat} {sp : Nat → Bool} {f : Nat} (hf : f ∈ [322, 324, 325, 326, 323, 327]) {v : Value} {z : DataW (List UInt8) × List MemPlace}
    (h : WideElems.elemAt (funcToken Tryz.prog) Tryz.prog W base sp true n 133 v = some z) (hz : z.1 = .held (bytesF f)) : v = .func (.func f) #[] #[] := by
  obtain ⟨ps, rs, va, hu⟩ := u133
  obtain ⟨b, r, hb, hone⟩ := one_of f hf
  unfold WideElems.elemAt at h
  split at h
  · have hc : v.cells.toList = [v] := by
      rename_i hfm
      cases v <;> first | rfl | (simp [Value.formed, hu] at hfm)
    rw [hc] at h
    obtain ⟨z1, z2⟩ := z
    simp only at hz
    rw [hz, hb] at h
    exact func_of_trod hu hone h
  · cases h

theorem heap_var {W : World} {g : Nat} {n : String} {cs : Array Value} {zero : Array Value} {t : TypeId} (hs : W.ShapedOpen Tryz.prog) (hg : Tryz.prog.globalNamed n = some g) (hlt : g < Tryz.prog.globals.size)
    (hrow : ((begin Tryz.prog (fun _ _ => 0) default).world.heap[g]?).bind Obj.row? = some (zero, t)) (hv : W.var? Tryz.prog n = some cs) : W.heap[g]? = some (.cells cs t (0, 0)) := by
  obtain ⟨cs', h1, _, _⟩ := hs.1 g zero t hlt hrow
  simp only [World.var?, hg, Option.bind_some, h1, Option.some.injEq] at hv
  subst hv; exact h1

theorem k_ne {i j : Nat} (h : i ≠ j) : kOf i ≠ kOf j := fun e => h (kOf_inj e)

/-- where the laid variables lie. -/
def em24 (b2 b3 : Nat) (o2 o3 : Obj) : Em := fun x => if x = kOf 0 then some ⟨0, 0, 1, none⟩ else if x = kOf 1 then some ⟨1, 0, 1, none⟩ else if x = kOf 2 then some ⟨b2, 0, 0, some o2⟩ else if x = kOf 3 then some ⟨b3, 0, 0, some o3⟩ else none

structure Laid (W : World) (φ : Em) : Prop where
  rel : HRel Tryz.prog φ H24 W
  back : ∀ φ' H' W', sameAt H24 H' ns24 = true → HRel Tryz.prog φ' H' W' → Ext φ φ' H24 H' W W' → ∀ i, i < W.heap.size → W'.heap[i]? = W.heap[i]?

theorem laid24 {W : World} (hs : W.ShapedOpen Tryz.prog) (hl : laidMetH Tryz.prog laid2 W) : ∃ φ, Laid W φ := by
  have hl' : laidMet Tryz.prog [("bellwether/encode.codes", Rows.laid_bellwether_encode_codes)] W ∧ handlesMet Tryz.prog [("bellwether/session.what", Rows.laid_bellwether_session_what)] W := hl
  obtain ⟨ps, ⟨g, t, cs, fuel, p, q, hg, ht, hv, hd, _, _⟩, _, _⟩ := hl'.1
  obtain rfl := Option.some.inj (gCodes.symm.trans hg)
  obtain rfl := Option.some.inj (tCodes.symm.trans ht)
  obtain ⟨g', t', cs', fuel', p', hg', ht', hv', hd'⟩ := hl'.2 _ (List.mem_singleton.2 rfl)
  obtain rfl := Option.some.inj (gWhat.symm.trans hg')
  obtain rfl := Option.some.inj (tWhat.symm.trans ht')
  have hd' : DataW.trod (funcToken Tryz.prog) Tryz.prog W 0 (fun _ => true) true fuel' 135 cs'.toList = some (.map whatD, p') := hd'
  rcases WideElems.open_map u374 hd with ⟨_, hx⟩ | ⟨b2, es2, cl2, m2, rfl, hcs2, hb2, _, F2, hx2⟩
  · simp [Rows.laid_bellwether_encode_codes] at hx
  rcases WideElems.open_map u135 hd' with ⟨_, hx⟩ | ⟨b3, es3, cl3, m3, rfl, hcs3, hb3, _, F3, hx3⟩
  · simp at hx
  simp only [Prod.mk.injEq] at hx2 hx3
  have hcs2 := Array.eq_one_of_toList hcs2
  have hcs3 := Array.eq_one_of_toList hcs3
  subst hcs2; subst hcs3
  have h1 := heap_var hs gCodes (by rw [globals24]; decide) rowCodes hv
  have h0 := heap_var hs gWhat (by rw [globals24]; decide) rowWhat hv'
  let φ := em24 b2 b3 (.map es2 cl2) (.map es3 cl3)
  have p0 : φ (kOf 0) = some ⟨0, 0, 1, none⟩ := by simp [φ, em24]
  have p1 : φ (kOf 1) = some ⟨1, 0, 1, none⟩ := by simp [φ, em24, k_ne (show 1 ≠ 0 by decide)]
  have p2 : φ (kOf 2) = some ⟨b2, 0, 0, some (.map es2 cl2)⟩ := by simp [φ, em24, k_ne (show 2 ≠ 0 by decide), k_ne (show 2 ≠ 1 by decide)]
  have p3 : φ (kOf 3) = some ⟨b3, 0, 0, some (.map es3 cl3)⟩ := by simp [φ, em24, k_ne (show 3 ≠ 0 by decide), k_ne (show 3 ≠ 1 by decide), k_ne (show 3 ≠ 2 by decide)]
  have pn : ∀ x q, φ x = some q → x = kOf 0 ∨ x = kOf 1 ∨ x = kOf 2 ∨ x = kOf 3 := fun x q hq => by
    by_cases e0 : x = kOf 0
    · exact .inl e0
    by_cases e1 : x = kOf 1
    · exact .inr (.inl e1)
    by_cases e2 : x = kOf 2
    · exact .inr (.inr (.inl e2))
    by_cases e3 : x = kOf 3
    · exact .inr (.inr (.inr e3))
    simp [φ, em24, e0, e1, e2, e3] at hq
  have t2 := tab_facts (φ := φ) (dat := fun a => match a with | .int k n => .lit (.int k n) | _ => .nil) (l := codes24) u5 F2 (DataW.map.inj hx2.1) (by kernel_rfl) (fun q hq v z hz he => by
    obtain ⟨a, rfl, rfl, _⟩ := WideElems.elemAt_int u5 hz
    simp only [codes24, List.mem_cons, List.not_mem_nil, or_false] at hq
    rcases hq with rfl | rfl | rfl | rfl | rfl | rfl | rfl | rfl | rfl | rfl | rfl | rfl | rfl <;> (simp only [DataW.lit.injEq, Lit.int.injEq, true_and] at he; subst he; exact .int _ _))
  have t3 := tab_facts (φ := φ) (dat := datW) (l := what24) u5 F3 (DataW.map.inj hx3.1) what_is (fun q hq v z hz he => by
    have go : ∀ f, f ∈ [322, 324, 325, 326, 323, 327] → q.2 = fn f → VRel φ q.2 v := fun f hf e => by
      rw [e] at he ⊢
      rw [func_at hf hz he]
      exact .func _ _ _ _ _ .nil .nil
    simp only [what24, List.mem_cons, List.not_mem_nil, or_false] at hq
    rcases hq with rfl | rfl | rfl | rfl | rfl | rfl
    · exact go 322 (by simp) rfl
    · exact go 324 (by simp) rfl
    · exact go 325 (by simp) rfl
    · exact go 326 (by simp) rfl
    · exact go 323 (by simp) rfl
    · exact go 327 (by simp) rfl)
  have hne : b2 ≠ b3 := by
    rintro rfl
    rw [hb2] at hb3
    injection hb3 with hb3
    injection hb3 with e1 e2
    subst e1
    obtain ⟨x, hx, hk⟩ := t2.2 (1, .int .u8 64) (by simp [codes24])
    obtain ⟨q, hq, hk', _⟩ := t3.1 x hx
    rw [hk] at hk'
    injection hk' with _ hk'
    have hk' := Int.ofNat.inj hk'
    simp only [what24, List.mem_cons, List.not_mem_nil, or_false] at hq
    rcases hq with rfl | rfl | rfl | rfl | rfl | rfl <;> simp at hk'
  have n20 : b2 ≠ 0 := by rintro rfl; rw [h0] at hb2; cases hb2
  have n21 : b2 ≠ 1 := by rintro rfl; rw [h1] at hb2; cases hb2
  have n30 : b3 ≠ 0 := by rintro rfl; rw [h0] at hb3; cases hb3
  have n31 : b3 ≠ 1 := by rintro rfl; rw [h1] at hb3; cases hb3
  refine ⟨φ, ⟨fun x o hx => ?_, fun x y o o' q q' hx hy hq hq' he => ?_, fun x q hq => ?_, fun g hg => ?_⟩, fun φ' H' W' hsame hrel hext i hi => ?_⟩
  · rcases get24 hx with ⟨rfl, rfl⟩ | ⟨rfl, rfl⟩ | ⟨rfl, rfl⟩ | ⟨rfl, rfl⟩
    · refine ⟨_, _, p0, h0, .cells _ _ _ _ _ rfl (by simp) (fun k a hk => ?_) (fun _ => rfl) (.inl rfl)⟩
      cases k with
      | zero => simp at hk; subst hk; exact ⟨_, rfl, .mapv _ _ p3⟩
      | succ k => simp at hk
    · refine ⟨_, _, p1, h1, .cells _ _ _ _ _ rfl (by simp) (fun k a hk => ?_) (fun _ => rfl) (.inl rfl)⟩
      cases k with
      | zero => simp at hk; subst hk; exact ⟨_, rfl, .mapv _ _ p2⟩
      | succ k => simp at hk
    · exact ⟨_, _, p2, hb2, .tab _ _ _ _ rfl (by decide) t2.1 t2.2⟩
    · exact ⟨_, _, p3, hb3, .tab _ _ _ _ rfl (by decide) t3.1 t3.2⟩
  · rcases get24 hx with ⟨rfl, _⟩ | ⟨rfl, _⟩ | ⟨rfl, _⟩ | ⟨rfl, _⟩ <;> rcases get24 hy with ⟨rfl, _⟩ | ⟨rfl, _⟩ | ⟨rfl, _⟩ | ⟨rfl, _⟩ <;> first
      | rfl
      | (exfalso
         simp only [p0, p1, p2, p3, Option.some.injEq] at hq hq'
         subst hq; subst hq'
         simp only at he
         omega)
  · rw [next24]
    rcases pn x q hq with rfl | rfl | rfl | rfl <;> rw [kOf_toNat] <;> decide
  · rw [globals24] at hg
    match g, hg with
    | 0, _ => exact ⟨1, p0⟩
    | 1, _ => exact ⟨1, p1⟩
  · have cell : ∀ (x : K) (i y b : Nat) (o : Obj) (t : TypeId), φ x = some ⟨i, 0, 1, none⟩ → H24.get x = some (.cells [.mapv (kOf y)] false) → x ∈ ns24 → φ (kOf y) = some ⟨b, 0, 0, some o⟩ → W.heap[i]? = some (.cells #[.map (some b)] t (0, 0)) → W'.heap[i]? = W.heap[i]? := by
      intro x i y b o t hp hget hmem hpy hw
      obtain ⟨o1, g1, g2⟩ := sameAt_mem hsame x hmem
      rw [hget] at g1; cases g1
      obtain ⟨pl, ob, g3, g4, g5⟩ := hrel.obj x _ g2
      rw [hext.le _ _ hp] at g3; cases g3
      cases g5 with
      | cells _ _ c elem fr e1 e2 e3 e4 e5 =>
        simp only at e1 e2 e3 e4 g4
        obtain ⟨v, hv1, hv2⟩ := e3 0 _ rfl
        cases hv2 with
        | mapv _ pl2 hp2 =>
          rw [hext.le _ _ hpy] at hp2; cases hp2
          have hk := hext.keeps i t (by simp [elemOf, hw])
          simp only [elemOf, g4] at hk
          cases hk
          have hc : c = #[.map (some b)] := by
            obtain ⟨c⟩ := c
            match c, e1 with
            | [a], _ => simp at hv1; subst hv1; rfl
          rw [g4, hw, hc, (by simpa using e4 : fr = (0, 0))]
    have table : ∀ (x : K) (b : Nat) (o : Obj) (k : IntKind) (l : List (Nat × AV)), φ x = some ⟨b, 0, 0, some o⟩ → H24.get x = some (.tab k l) → x ∈ ns24 → W.heap[b]? = some o → W'.heap[b]? = W.heap[b]? := by
      intro x b o k l hp hget hmem hw
      obtain ⟨o1, g1, g2⟩ := sameAt_mem hsame x hmem
      rw [hget] at g1; cases g1
      obtain ⟨pl, ob, g3, g4, g5⟩ := hrel.obj x _ g2
      rw [hext.le _ _ hp] at g3; cases g3
      cases g5 with
      | tab _ _ es cl e1 _ _ _ =>
        simp only [Option.some.injEq] at e1
        subst e1
        rw [g4, hw]
    by_cases hin : Lies φ H24 i
    · obtain ⟨x, o, q, hx, hq, he⟩ := hin
      rcases get24 hx with ⟨rfl, rfl⟩ | ⟨rfl, rfl⟩ | ⟨rfl, rfl⟩ | ⟨rfl, rfl⟩
      · rw [p0] at hq; cases hq; subst he
        exact cell _ _ _ _ _ _ p0 hx (by simp [ns24]) p3 h0
      · rw [p1] at hq; cases hq; subst he
        exact cell _ _ _ _ _ _ p1 hx (by simp [ns24]) p2 h1
      · rw [p2] at hq; cases hq; subst he
        exact table _ _ _ _ _ p2 hx (by simp [ns24]) hb2
      · rw [p3] at hq; cases hq; subst he
        exact table _ _ _ _ _ p3 hx (by simp [ns24]) hb3
    · exact hext.frame i hi hin
end
end Go.Sx
