/- SessionNil: the closed facts of its row. -/
import Derived.Test.YtmkcndaidopkpaaGreatDoorRows
import Derived.ProofKit
import Derived.KernelRfl
namespace Go.Proofs.YtmkcndaidopkpaaGreatDoor
open Go
theorem and2 {a b : Bool} (ha : a = true) (hb : b = true) : (a && b) = true := by rw [ha, hb]; rfl
abbrev sessionNilC : OpenClaim := Rows.sessionNilRow
abbrev sessionNilS : ChangeSpec := Rows.sessionNilSpec
theorem sessionNil_k0 : (sessionNilC.wf (OpenSpec.ofChange sessionNilS)) = true := by kernel_rfl
theorem sessionNil_k1 : (laidOutB Tryz.prog) = true := by kernel_rfl
theorem sessionNil_k2 : (mapsRowed Tryz.prog) = true := by kernel_rfl
theorem sessionNil_k3 : (Tryz.f7.params.all (Tryz.prog.readableRec ·)) = true := by kernel_rfl
theorem sessionNil_k4 : (namedTie Tryz.prog sessionNilC.named sessionNilS.vars) = true := by kernel_rfl
theorem sessionNil_k5 : ((sessionNilC.stops == [])) = true := by kernel_rfl
theorem sessionNil_k6 : ((Tryz.prog.stops == [])) = true := by kernel_rfl
theorem sessionNil_k7 : ((sessionNilC.knobs == [])) = true := by kernel_rfl
theorem sessionNil_k8 : ((Tryz.prog.stopKnobs == [])) = true := by kernel_rfl
theorem sessionNil_k9 : ((sessionNilC.inPlace == Tryz.prog.inPlace 7)) = true := by kernel_rfl
theorem sessionNil_k10 : ((sessionNilC.unfollowed == Tryz.prog.unfollowed 7)) = true := by kernel_rfl
theorem sessionNil_k11 : ((sessionNilC.recurses == Tryz.prog.recurses 7)) = true := by kernel_rfl
theorem sessionNil_k12 : ((sessionNilC.named == Tryz.prog.varsNamed 7)) = true := by kernel_rfl
theorem sessionNil_k13 : ((sessionNilC.maps == (Tryz.f7.params.toList ++ sessionNilS.plain.varTypes Tryz.prog).any (Tryz.prog.mapsRec ·))) = true := by kernel_rfl
theorem sessionNil_k14 : ((sessionNilC.ifaces == (Tryz.f7.params.toList ++ sessionNilS.plain.varTypes Tryz.prog).any (Tryz.prog.ifacesRec ·))) = true := by kernel_rfl
theorem sessionNil_k15 : ((sessionNilC.mapsOut == Tryz.prog.mapsAmong Tryz.f7.resultTypes.toList)) = true := by kernel_rfl
theorem sessionNil_k16 : ((sessionNilC.loops == (Tryz.f7.params.toList ++ sessionNilS.plain.varTypes Tryz.prog).any (Tryz.prog.loopsFrom ·))) = true := by kernel_rfl
theorem sessionNil_k17 : ((sessionNilC.wideKeys == (Tryz.f7.params.toList ++ sessionNilS.plain.varTypes Tryz.prog ++ Tryz.f7.resultTypes.toList).any (Tryz.prog.wideKeysFrom ·))) = true := by kernel_rfl
theorem sessionNil_k18 : (sessionNilS.vars.all (Tryz.prog.varReadable ·)) = true := by kernel_rfl
theorem sessionNil_k19 : (Tryz.f7.resultTypes.all (fun t => Tryz.prog.readableRec t && decide (t < Tryz.prog.types.size))) = true := by kernel_rfl
theorem sessionNil_k20 : ((sessionNilC.ifacesOut == Tryz.f7.resultTypes.toList.any (Tryz.prog.ifacesRec ·))) = true := by kernel_rfl
theorem sessionNil_k21 : ((sessionNilC.loopsOut == Tryz.f7.resultTypes.toList.any (Tryz.prog.loopsFrom ·))) = true := by kernel_rfl
theorem sessionNil_k22 : ((sessionNilC.plainKeys == Tryz.prog.plainKeys)) = true := by kernel_rfl
theorem sessionNil_k23 : (sessionNilC.shortTexts.isNone) = true := by kernel_rfl
theorem sessionNil_k24 : (Tryz.prog.stopsHeard) = true := by kernel_rfl
theorem sessionNil_k25 : (Tryz.prog.mayEnter) = true := by kernel_rfl
theorem sessionNil_k26 : ((sessionNilC.lifted == Tryz.prog.liftsFinal)) = true := by kernel_rfl
theorem sessionNil_k27 : ((Tryz.prog.make == some sessionNilC.make)) = true := by kernel_rfl
theorem sessionNil_k28 : ((sessionNilC.kinds == (if sessionNilC.domain.isEmpty then [] else Tryz.f7.params.toList.map fun t => match Tryz.prog.underlying t with | some (.int k) => some k | _ => none))) = true := by kernel_rfl
theorem sessionNil_k29 : ((sessionNilC.pinned == sessionNilC.pinnedBy)) = true := by kernel_rfl
theorem sessionNil_k30 : ((sessionNilC.veiled == (Tryz.f7.params.toList ++ sessionNilS.plain.varTypes Tryz.prog ++ Tryz.f7.resultTypes.toList).any (Tryz.prog.veiledRec ·))) = true := by kernel_rfl
theorem sessionNil_k31 : (sessionNilC.veiledFits Tryz.prog Tryz.f7.params.toList (Tryz.f7.params.toList ++ sessionNilS.plain.varTypes Tryz.prog ++ Tryz.f7.resultTypes.toList)) = true := by kernel_rfl
theorem sessionNil_named : Tryz.prog.funcNamed sessionNilC.func = some 7 := by kernel_rfl
theorem sessionNil_inst : Tryz.f7.isInstance Tryz.prog sessionNilC.origin sessionNilC.targs := of_decide_eq_true (by kernel_rfl)
theorem sessionNil_wrap : Tryz.f7.isWrapper Tryz.prog sessionNilC.wrapper sessionNilC.mainSum := by unfold Func.isWrapper; first | (rw [if_pos (by decide +kernel)]; kernel_rfl) | (rw [if_neg (by decide +kernel)]; exact ⟨rfl, rfl⟩)
theorem sessionNil_facts : joinedFacts Tryz.prog 7 Tryz.f7 sessionNilS sessionNilC = true := by
  unfold joinedFacts
  exact (and2 (and2 (and2 (and2 (and2 (and2 (and2 (and2 (and2 (and2 (and2 (and2 (and2 (and2 (and2 (and2 (and2 (and2 (and2 (and2 (and2 (and2 (and2 (and2 (and2 (and2 (and2 (and2 (and2 (and2 (and2 sessionNil_k0 sessionNil_k1) sessionNil_k2) sessionNil_k3) sessionNil_k4) sessionNil_k5) sessionNil_k6) sessionNil_k7) sessionNil_k8) sessionNil_k9) sessionNil_k10) sessionNil_k11) sessionNil_k12) sessionNil_k13) sessionNil_k14) sessionNil_k15) sessionNil_k16) sessionNil_k17) sessionNil_k18) sessionNil_k19) sessionNil_k20) sessionNil_k21) sessionNil_k22) sessionNil_k23) sessionNil_k24) sessionNil_k25) sessionNil_k26) sessionNil_k27) (by kernel_rfl)) sessionNil_k29) sessionNil_k30) sessionNil_k31)
end Go.Proofs.YtmkcndaidopkpaaGreatDoor
