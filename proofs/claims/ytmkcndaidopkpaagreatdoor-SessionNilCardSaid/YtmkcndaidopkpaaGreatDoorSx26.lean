/- A run that answers some calls from a table; a run that goes both ways where a question is open, and takes each value of a small range. -/
import Derived.Test.YtmkcndaidopkpaaGreatDoorSx25
namespace Go.Sx
noncomputable section
variable {P : Program}

abbrev Mem := FuncId → List AV → Hp → Option AV

def stepM (P : Program) (thr : FuncId → Nat) (mem : Mem) (rec : Job → Option Res) : Job → Option Res :=
  @Job.rec (fun _ => Option Res)
    (fun c T L t H => stepCode P c T L t H rec)
    (fun b c T L t H => inScope rec b T (rec (.code c T L t H)))
    (fun f args H => @Option.rec AV (fun _ => Option Res) (stepCall P thr f args H rec) (fun v => some (.val v H)) (mem f args H))
    (fun x args H => stepYield x args H rec)

def runM (P : Program) (thr : FuncId → Nat) (mem : Mem) : Nat → Job → Option Res :=
  @Nat.rec (fun _ => Job → Option Res) (fun _ => none) (fun _ ih j => stepM P thr mem ih j)

def MemOk (P : Program) (mem : Mem) : Prop := ∀ f args H v, mem f args H = some v → CallOk P f args H v H

theorem stepM_ok (hF : Fit P) {thr : FuncId → Nat} {mem : Mem} (hM : MemOk P mem) {rec : Job → Option Res} (rok : RecOk P rec) : RecOk P (stepM P thr mem rec) where
  code := fun _ _ _ _ _ _ _ _ _ h => stepCode_ok hF rok h
  scope := fun _ _ _ _ _ _ _ _ _ _ h => scope_ok rok h
  call := fun f args H v H' h => by
    have h : @Option.rec AV (fun _ => Option Res) (stepCall P thr f args H rec) (fun v => some (.val v H)) (mem f args H) = some (.val v H') := h
    cases hq : mem f args H with
    | none => rw [hq] at h; exact call_ok rok h
    | some u => rw [hq] at h; cases h; exact hM _ _ _ _ hq
  yield := fun _ _ _ _ _ h => yield_ok rok h

theorem runM_ok (hF : Fit P) (thr : FuncId → Nat) {mem : Mem} (hM : MemOk P mem) : ∀ n, RecOk P (runM P thr mem n)
  | 0 => ⟨fun _ _ _ _ _ _ _ _ _ h => (nomatch h), fun _ _ _ _ _ _ _ _ _ _ h => (nomatch h), fun _ _ _ _ _ h => (nomatch h), fun _ _ _ _ _ h => (nomatch h)⟩
  | n + 1 => stepM_ok hF hM (runM_ok hF thr hM n)

/-! ## both ways -/
abbrev Goal := Ex → Loc → Tr AV → Hp → Bool

/-- each value from lo on. -/
def eachV (k : Nat → Bool) : Nat → Nat → Bool
  | 0, _ => true
  | n + 1, x => match k x with | true => eachV k n (x + 1) | false => false
/-- the small ranges of some slots, value by value. -/
def splits (P : Program) (T : FrP) (e : Ex) (H : Hp) (k : Goal) : List Nat → Loc → Tr AV → Bool
  | [], L, t => k e L t H
  | i :: r, L, t => match evo (opd P T (.tmp i)) L t with
    | .rng s lo hi _ _ => (match Nat.ble (hi - lo) 64 with
      | true => eachV (fun x => splits P T e H k r (putL T L (some i) (.int s (.ofNat x))) (putT T t (some i) (.int s (.ofNat x)))) (hi + 1 - lo) lo
      | false => splits P T e H k r L t)
    | _ => splits P T e H k r L t

def leaf (P : Program) (T : FrP) (sp : List Nat) (k : Goal) : Option Res → Bool
  | some (.out e L t H) => splits P T e H k sp L t
  | _ => false

def isAnyb : AV → Bool | .anyb => true | _ => false

def fork (P : Program) (sp : List Nat) (run : Job → Option Res) : Nat → Code → FrP → Loc → Tr AV → Hp → Goal → Bool
  | 0, _, _, _, _, _, _ => false
  | n + 1, c, T, L, t, H, k => match c with
    | .seq a b => fork P sp run n a T L t H fun e L t H => match e with
      | .normal => fork P sp run n b T L t H k
      | e => k e L t H
    | .loop a => fork P sp run n a T L t H fun e L t H => match e with
      | .normal => fork P sp run n (.loop a) T L t H k
      | e => k e L t H
    | .block id a => fork P sp run n a T L t H fun e L t H => match e with
      | .exit i => (match Nat.beq i id with | true => k .normal L t H | false => k (.exit i) L t H)
      | e => k e L t H
    | .cond x a b => (match asBool (evo (opd P T x) L t) with
      | some true => fork P sp run n a T L t H k
      | some false => fork P sp run n b T L t H k
      | none => match isAnyb (evo (opd P T x) L t) with
        | true => (match fork P sp run n a T L t H k with | true => fork P sp run n b T L t H k | false => false)
        | false => false)
    | c => leaf P T sp k (run (.code c T L t H))

/-- some end that the goal takes. -/
def CodeOkQ (P : Program) (items : List Item) (T : FrP) (L : Loc) (t : Tr AV) (H : Hp) (Q : Goal) : Prop :=
  ∀ s φ b a w k cs, At P s φ T L t H b a w → ∃ e L' t' H' φ' a' w', Q e L' t' H' = true ∧ At P s φ' T L' t' H' b a' w' ∧ Ext φ φ' H H' w w' ∧ Arr P (lone (b.atR a (items ++ k)) cs w) b k cs e a' w'

theorem eachV_get {k : Nat → Bool} : ∀ {n lo : Nat}, eachV k n lo = true → ∀ x, lo ≤ x → x < lo + n → k x = true
  | 0, lo, _, x, h1, h2 => by omega
  | n + 1, lo, h, x, h1, h2 => by
    simp only [eachV] at h
    split at h
    · rename_i hk
      by_cases e : x = lo
      · subst e; exact hk
      · exact eachV_get h x (by omega) (by omega)
    · cases h

theorem TRel.same_put {φ : Em} {T : FrP} {L : Loc} {t : Tr AV} {tmps : Array Value} (r : TRel φ T L t tmps) (i : Nat) {v : AV} (h : VRel φ v (tmps.getD i undef)) :
    TRel φ T (putL T L (some i) v) (putT T t (some i) v) tmps := by
  refine ⟨r.size, fun j => ?_, fun j hj => ?_⟩
  · rw [env_put]
    by_cases e : i = j
    · subst e
      by_cases h2 : i < T.n
      · rw [if_pos ⟨rfl, h2⟩]; exact h
      · simp only [h2, and_false, if_false]; exact r.rel i
    · simp only [Option.some.injEq, e, false_and, if_false]; exact r.rel j
  · rw [env_put]
    have : ¬ j < T.n := by omega
    simp only [this, and_false, if_false]
    exact r.out j hj

theorem splits_ok {T : FrP} {e : Ex} {H : Hp} {k : Goal} {s : Nat} {φ : Em} {b : Frame} {a : Act} {w : World} : ∀ {sp : List Nat} {L : Loc} {t : Tr AV}, splits P T e H k sp L t = true → At P s φ T L t H b a w →
    ∃ L' t', k e L' t' H = true ∧ At P s φ T L' t' H b a w
  | [], L, t, h, hat => ⟨L, t, h, hat⟩
  | i :: r, L, t, h, hat => by
    simp only [splits] at h
    split at h
    · rename_i ks lo hi m q hv
      split at h
      · have hr := hat.tr.rel i
        rw [evo_tmp] at hv
        rw [hv] at hr
        generalize hg : a.tmps.getD i undef = val at hr
        cases hr with
        | rng _ _ _ _ _ x h1 h2 h3 =>
          have hx := eachV_get h x h1 (by omega)
          have hat' : At P s φ T (putL T L (some i) (.int ks (.ofNat x))) (putT T t (some i) (.int ks (.ofNat x))) H b a w :=
            ⟨hat.tr.same_put i (by rw [hg]; exact .int _ _), hat.hr, hat.df, hat.rn⟩
          exact splits_ok hx hat'
      · exact splits_ok h hat
    · exact splits_ok h hat

section
variable {T : FrP} {L : Loc} {t : Tr AV} {H : Hp}

theorem leaf_ok {run : Job → Option Res} (rok : RecOk P run) {sp : List Nat} {c : Code} {k : Goal} (h : leaf P T sp k (run (.code c T L t H)) = true) : CodeOkQ P [.code c] T L t H k := by
  intro s φ b a w κ cs hat
  unfold leaf at h
  split at h
  · rename_i e L₁ t₁ H₁ hr
    obtain ⟨φ₁, a₁, w₁, hat₁, e₁, r₁⟩ := rok.code _ _ _ _ _ _ _ _ _ hr s φ b a w κ cs hat
    obtain ⟨L₂, t₂, hk, hat₂⟩ := splits_ok h hat₁
    exact ⟨e, L₂, t₂, H₁, φ₁, a₁, w₁, hk, hat₂, e₁, r₁⟩
  · cases h

theorem fork_ok {run : Job → Option Res} (rok : RecOk P run) {sp : List Nat} : ∀ (n : Nat) {c : Code} {T : FrP} {L : Loc} {t : Tr AV} {H : Hp} {k : Goal}, fork P sp run n c T L t H k = true → CodeOkQ P [.code c] T L t H k := by
  intro n
  induction n with
  | zero => intro c T L t H k h; cases h
  | succ n ih =>
    intro c T L t H k h
    cases c with
    | seq x y =>
      simp only [fork] at h
      intro s φ b a w κ cs hat
      obtain ⟨e₁, L₁, t₁, H₁, φ₁, a₁, w₁, hq, hat₁, x₁, r₁⟩ := ih h s φ b a w (.code y :: κ) cs hat
      cases e₁ with
      | normal =>
        obtain ⟨e₂, L₂, t₂, H₂, φ₂, a₂, w₂, hq₂, hat₂, x₂, r₂⟩ := ih hq s φ₁ b a₁ w₁ κ cs hat₁
        exact ⟨e₂, L₂, t₂, H₂, φ₂, a₂, w₂, hq₂, hat₂, x₁.trans x₂, .of_steps (.head stepR_seq r₁) r₂⟩
      | exit i => exact ⟨_, L₁, t₁, H₁, φ₁, a₁, w₁, hq, hat₁, x₁, .of_steps (.one stepR_seq) (r₁.past (by simp) (fun _ _ => rfl) (fun _ _ => rfl))⟩
      | goto l => exact ⟨_, L₁, t₁, H₁, φ₁, a₁, w₁, hq, hat₁, x₁, .of_steps (.one stepR_seq) (r₁.past (by simp) (fun _ _ => rfl) (fun _ _ => rfl))⟩
      | ret => exact ⟨_, L₁, t₁, H₁, φ₁, a₁, w₁, hq, hat₁, x₁, .of_steps (.one stepR_seq) (r₁.past (by simp) (fun _ _ => rfl) (fun _ _ => rfl))⟩
    | loop x =>
      simp only [fork] at h
      intro s φ b a w κ cs hat
      obtain ⟨e₁, L₁, t₁, H₁, φ₁, a₁, w₁, hq, hat₁, x₁, r₁⟩ := ih h s φ b a w (.inLoop x :: κ) cs hat
      cases e₁ with
      | normal =>
        obtain ⟨e₂, L₂, t₂, H₂, φ₂, a₂, w₂, hq₂, hat₂, x₂, r₂⟩ := ih hq s φ₁ b a₁ w₁ κ cs hat₁
        exact ⟨e₂, L₂, t₂, H₂, φ₂, a₂, w₂, hq₂, hat₂, x₁.trans x₂, .of_steps (.head stepR_loop r₁) r₂.loop⟩
      | exit i => exact ⟨_, L₁, t₁, H₁, φ₁, a₁, w₁, hq, hat₁, x₁, .of_steps (.one stepR_loop) (r₁.past (by simp) (fun _ _ => rfl) (fun _ _ => rfl))⟩
      | goto l => exact ⟨_, L₁, t₁, H₁, φ₁, a₁, w₁, hq, hat₁, x₁, .of_steps (.one stepR_loop) (r₁.past (by simp) (fun _ _ => rfl) (fun _ _ => rfl))⟩
      | ret => exact ⟨_, L₁, t₁, H₁, φ₁, a₁, w₁, hq, hat₁, x₁, .of_steps (.one stepR_loop) (r₁.past (by simp) (fun _ _ => rfl) (fun _ _ => rfl))⟩
    | block id x =>
      simp only [fork] at h
      intro s φ b a w κ cs hat
      obtain ⟨e₁, L₁, t₁, H₁, φ₁, a₁, w₁, hq, hat₁, x₁, r₁⟩ := ih h s φ b a w (.inBlock id :: κ) cs hat
      cases e₁ with
      | normal => exact ⟨_, L₁, t₁, H₁, φ₁, a₁, w₁, hq, hat₁, x₁, Steps.head stepR_block (Steps.trans r₁ (.one stepR_inBlock))⟩
      | exit i =>
        obtain ⟨q, hq', hs⟩ := r₁
        have hb := beq_nat i id
        by_cases hi : i = id
        · subst hi
          simp only [hb, decide_true] at hq
          exact ⟨_, L₁, t₁, H₁, φ₁, a₁, w₁, hq, hat₁, x₁, Steps.head stepR_block (hs.trans (.one (stepR_exit (by rw [hq']; simp [exitTo]))))⟩
        · simp only [hb, hi, decide_false] at hq
          refine ⟨_, L₁, t₁, H₁, φ₁, a₁, w₁, hq, hat₁, x₁, q, ?_, .head stepR_block hs⟩
          rw [hq']
          have : (id == i) = false := by simpa using fun e => hi e.symm
          simp [exitTo, this]
      | goto l => exact ⟨_, L₁, t₁, H₁, φ₁, a₁, w₁, hq, hat₁, x₁, .of_steps (.one stepR_block) (r₁.past (by simp) (fun _ h => by cases h) (fun _ _ => rfl))⟩
      | ret => exact ⟨_, L₁, t₁, H₁, φ₁, a₁, w₁, hq, hat₁, x₁, .of_steps (.one stepR_block) (r₁.past (by simp) (fun _ h => by cases h) (fun _ h => by cases h))⟩
    | cond x y z =>
      simp only [fork] at h
      intro s φ b a w κ cs hat
      have hv := evo_rel hat.hr.glob hat.tr x
      have go : ∀ (v : Bool), a.eval x = .bool v → fork P sp run n (if v then y else z) T L t H k = true →
          ∃ e L' t' H' φ' a' w', k e L' t' H' = true ∧ At P s φ' T L' t' H' b a' w' ∧ Ext φ φ' H H' w w' ∧ Arr P (lone (b.atR a ([.code (.cond x y z)] ++ κ)) cs w) b κ cs e a' w' := by
        intro v hev hf
        have hs := stepR_cond (P := P) (b := b) (k := κ) (cs := cs) (w := w) (x := y) (y := z) hev
        cases v with
        | true =>
          obtain ⟨e₁, L₁, t₁, H₁, φ₁, a₁, w₁, hq, hat₁, x₁, r₁⟩ := ih hf s φ b a w κ cs hat
          exact ⟨e₁, L₁, t₁, H₁, φ₁, a₁, w₁, hq, hat₁, x₁, .of_steps (.one hs) r₁⟩
        | false =>
          obtain ⟨e₁, L₁, t₁, H₁, φ₁, a₁, w₁, hq, hat₁, x₁, r₁⟩ := ih hf s φ b a w κ cs hat
          exact ⟨e₁, L₁, t₁, H₁, φ₁, a₁, w₁, hq, hat₁, x₁, .of_steps (.one hs) r₁⟩
      split at h
      · rename_i hb
        rw [asBool_some hb] at hv
        exact go true (rel_bool hv) h
      · rename_i hb
        rw [asBool_some hb] at hv
        exact go false (rel_bool hv) h
      · split at h
        · rename_i ha
          split at h
          · rename_i hy
            have ha : evo (opd P T x) L t = .anyb := by
              generalize evo (opd P T x) L t = u at ha
              cases u <;> first | rfl | cases ha
            rw [ha] at hv
            generalize hg : a.eval x = val at hv
            cases hv with
            | anyb v =>
              cases v with
              | true => exact go true hg hy
              | false => exact go false hg h
          · cases h
        · cases h
    | skip => exact leaf_ok rok h
    | region id ops d => exact leaf_ok rok h
    | rangeFunc f ps as b => exact leaf_ok rok h
    | exit i => exact leaf_ok rok h
    | scope x => exact leaf_ok rok h
    | label l => exact leaf_ok rok h
    | goto l => exact leaf_ok rok h
    | ret => exact leaf_ok rok h
    | refuse w => exact leaf_ok rok h
end

/-! ## a call -/
def CallQ (P : Program) (f : FuncId) (args : List AV) (H : Hp) (q : AV → Hp → Bool) : Prop :=
  ∀ φ w args', HRel P φ H w → VRels φ args args'.toList → Calls P f args' w fun e w' => ∃ v H' φ' v', q v H' = true ∧ e = .returned v' ∧ VRel φ' v v' ∧ HRel P φ' H' w' ∧ Ext φ φ' H H' w w'

theorem CallOk.q {f : FuncId} {args : List AV} {H H' : Hp} {v : AV} {q : AV → Hp → Bool} (h : CallOk P f args H v H') (hq : q v H' = true) : CallQ P f args H q := by
  intro φ w args' r ha
  exact (h φ w args' r ha).mono fun e w' ⟨φ', v', h1, h2, h3, h4⟩ => ⟨v, H', φ', v', hq, h1, h2, h3, h4⟩

def callGoal (P : Program) (fn : Func) (T : FrP) (q : AV → Hp → Bool) : Goal := fun e L t H => match finish P fn T (some (.out e L t H)) with
  | some (.val v H) => q v H
  | _ => false

def forkCall (P : Program) (thr : FuncId → Nat) (sp : List Nat) (run : Job → Option Res) (n : Nat) (f : FuncId) (args : List AV) (H : Hp) (q : AV → Hp → Bool) : Bool :=
  match P.funcs[f]? with
  | some fn => (match fn.body with
    | some c => (match Nat.ble (len args) fn.ntmps with
      | true => fork P sp run n c ⟨thr f, fn.ntmps, false⟩ .nil (bindT args .e .leaf) H (callGoal P fn ⟨thr f, fn.ntmps, false⟩ q)
      | false => false)
    | none => false)
  | none => false

theorem forkCall_ok {run : Job → Option Res} (rok : RecOk P run) {thr : FuncId → Nat} {sp : List Nat} {n : Nat} {f : FuncId} {args : List AV} {H : Hp} {q : AV → Hp → Bool}
    (h : forkCall P thr sp run n f args H q = true) : CallQ P f args H q := by
  intro φ w args' r hargs cs
  unfold forkCall at h
  split at h
  · rename_i fn hf
    split at h
    · rename_i c hc
      split at h
      · rename_i hle
        rw [ble_nat] at hle
        have hle : args.length ≤ fn.ntmps := by rw [← len_eq]; simpa using hle
        let b : Frame := { (default : Frame) with fn := f, kind := .normal }
        let a₀ : Act := ⟨args' ++ Array.replicate (fn.ntmps - args'.size) undef, []⟩
        have henter : Frame.enter P f args' .normal = b.atR a₀ [.code c] := by
          simp [Frame.enter, Frame.atR, hf, hc, b, a₀]
          rfl
        have hat : At P w.heap.size φ ⟨thr f, fn.ntmps, false⟩ .nil (bindT args .e .leaf) H b a₀ w := ⟨enter_tr hargs hle, r, DOk.nil _ _ _ (Nat.le_refl _), fun _ => rfl⟩
        obtain ⟨e, L, t, H', φ₁, a₁, w₁, hgoal, hat₁, he₁, hs₁⟩ := fork_ok rok n h w.heap.size φ b a₀ w [] cs hat
        unfold callGoal at hgoal
        split at hgoal
        · rename_i v H'' hfin
          obtain ⟨e', L', t', heq, he, vs, hvs, hv⟩ := finish_some hfin
          cases heq
          obtain ⟨hsz, rs, hnd, hds, hrs⟩ := hat₁.df
          have hret : ∃ q, Steps P (lone (b.atR a₀ [.code c]) cs w) (lone { b.atR a₁ q with mode := .returning } cs w₁) := by
            rcases he with rfl | rfl
            · exact ⟨[], Steps.trans hs₁ (.one (stepR_end rfl))⟩
            · obtain ⟨q, hq⟩ := hs₁
              exact ⟨.code .ret :: q, Steps.trans hq (.one (stepR_ret rfl))⟩
          obtain ⟨q, hq⟩ := hret
          obtain ⟨w₂, hr₂, ⟨h1, h2, h3, h4, h5⟩, hs₂⟩ := take_ok rs w₁ { b.atR a₁ q with mode := .returning } cs hat₁.hr hnd (fun x hx => ⟨(hrs x hx).1, (hrs x hx).2.1⟩) rfl hds
          obtain ⟨us, hus, hrun⟩ := results_rel hat₁.tr hr₂ (a := a₁) (by
            have : resultsOf P ⟨thr f, fn.ntmps, false⟩ L t H' fn.results.toList = some vs := hvs
            exact this)
          have hmap : (results fn a₁.tmps).run P w₂ = .ok (if us.length = 1 then us.getD 0 undef else .tuple us.toArray) w₂ := by
            have hres : results fn a₁.tmps = (do let vs ← fn.results.mapM (resOf a₁.tmps); pure (if h : vs.size = 1 then vs[0] else .tuple vs)) := rfl
            rw [hres, Array.mapM_eq_mapM_toList]
            simp only [Sem.run_bind, Sem.run_map, hrun, Result.andThen_ok, Sem.run_pure]
            by_cases h1 : us.length = 1
            · obtain ⟨u, rfl⟩ := List.length_eq_one_iff.1 h1
              simp
            · simp [h1]
          refine ⟨.returned (if us.length = 1 then us.getD 0 undef else .tuple us.toArray), w₂, { b.atR a₁ q with mode := .returning, defers := [] }, ⟨v, _, φ₁, _, hgoal, rfl, ?_, hr₂, ?_⟩, ?_, rfl, rfl, rfl, rfl, fn, hf, hmap⟩
          · have hlen := hus.length
            rcases hv with rfl | ⟨hne, rfl⟩
            · cases hus with
              | cons _ u _ _ hu hn => cases hn; exact hu
            · have : us.length ≠ 1 := by omega
              rw [if_neg this]
              exact .tup _ _ (by simpa using hus)
          · refine ⟨he₁.le, he₁.next, by rw [h1]; exact he₁.size, fun c hc hn => ?_, he₁.lies, he₁.dom, h3.trans he₁.os, h4.trans he₁.output, h5.trans he₁.tape, fun c u hu => ?_⟩
            · rw [h2 c (fun hm => by have := (hrs c hm).2.2; omega)]
              exact he₁.frame c hc hn
            · have hu' := he₁.keeps c u hu
              have hc : c ∉ rs := fun hm => by have := (hrs c hm).1; simp [elemOf, this] at hu'
              unfold elemOf at hu' ⊢; rw [h2 c hc]; exact hu'
          · rw [henter]
            exact Steps.trans hq hs₂
        · cases hgoal
      · cases h
    · cases h
  · cases h

end
end Go.Sx
