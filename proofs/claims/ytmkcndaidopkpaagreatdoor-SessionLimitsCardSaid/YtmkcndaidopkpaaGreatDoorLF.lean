/- SessionLimits: the closed facts of its row. -/
import Derived.Test.YtmkcndaidopkpaaGreatDoorRows
import Derived.ProofKit
import Derived.KernelRfl
namespace Go.Proofs.YtmkcndaidopkpaaGreatDoor
open Go
theorem and2 {a b : Bool} (ha : a = true) (hb : b = true) : (a && b) = true := by rw [ha, hb]; rfl
abbrev sessionLimitsC : OpenClaim := Rows.sessionLimitsRow
abbrev sessionLimitsS : ChangeSpec := Rows.sessionLimitsSpec
theorem sessionLimits_k0 : (sessionLimitsC.wf (OpenSpec.ofChange sessionLimitsS)) = true := by kernel_rfl
theorem sessionLimits_k1 : (laidOutB Tryz.prog) = true := by kernel_rfl
theorem sessionLimits_k2 : (mapsRowed Tryz.prog) = true := by kernel_rfl
theorem sessionLimits_k3 : (Tryz.f4.params.all (Tryz.prog.readableRec ·)) = true := by kernel_rfl
theorem sessionLimits_k4 : (namedTie Tryz.prog sessionLimitsC.named sessionLimitsS.vars) = true := by kernel_rfl
theorem sessionLimits_k5 : ((sessionLimitsC.stops == [])) = true := by kernel_rfl
theorem sessionLimits_k6 : ((Tryz.prog.stops == [])) = true := by kernel_rfl
theorem sessionLimits_k7 : ((sessionLimitsC.knobs == [])) = true := by kernel_rfl
theorem sessionLimits_k8 : ((Tryz.prog.stopKnobs == [])) = true := by kernel_rfl
theorem sessionLimits_k9 : ((sessionLimitsC.inPlace == Tryz.prog.inPlace 4)) = true := by kernel_rfl
theorem sessionLimits_k10 : ((sessionLimitsC.unfollowed == Tryz.prog.unfollowed 4)) = true := by kernel_rfl
theorem sessionLimits_k11 : ((sessionLimitsC.recurses == Tryz.prog.recurses 4)) = true := by kernel_rfl
theorem sessionLimits_k12 : ((sessionLimitsC.named == Tryz.prog.varsNamed 4)) = true := by kernel_rfl
theorem sessionLimits_k13 : ((sessionLimitsC.maps == (Tryz.f4.params.toList ++ sessionLimitsS.plain.varTypes Tryz.prog).any (Tryz.prog.mapsRec ·))) = true := by kernel_rfl
theorem sessionLimits_k14 : ((sessionLimitsC.ifaces == (Tryz.f4.params.toList ++ sessionLimitsS.plain.varTypes Tryz.prog).any (Tryz.prog.ifacesRec ·))) = true := by kernel_rfl
theorem sessionLimits_k15 : ((sessionLimitsC.mapsOut == Tryz.prog.mapsAmong Tryz.f4.resultTypes.toList)) = true := by kernel_rfl
theorem sessionLimits_k16 : ((sessionLimitsC.loops == (Tryz.f4.params.toList ++ sessionLimitsS.plain.varTypes Tryz.prog).any (Tryz.prog.loopsFrom ·))) = true := by kernel_rfl
theorem sessionLimits_k17 : ((sessionLimitsC.wideKeys == (Tryz.f4.params.toList ++ sessionLimitsS.plain.varTypes Tryz.prog ++ Tryz.f4.resultTypes.toList).any (Tryz.prog.wideKeysFrom ·))) = true := by kernel_rfl
theorem sessionLimits_k18 : (sessionLimitsS.vars.all (Tryz.prog.varReadable ·)) = true := by kernel_rfl
theorem sessionLimits_k19 : (Tryz.f4.resultTypes.all (fun t => Tryz.prog.readableRec t && decide (t < Tryz.prog.types.size))) = true := by kernel_rfl
theorem sessionLimits_k20 : ((sessionLimitsC.ifacesOut == Tryz.f4.resultTypes.toList.any (Tryz.prog.ifacesRec ·))) = true := by kernel_rfl
theorem sessionLimits_k21 : ((sessionLimitsC.loopsOut == Tryz.f4.resultTypes.toList.any (Tryz.prog.loopsFrom ·))) = true := by kernel_rfl
theorem sessionLimits_k22 : ((sessionLimitsC.plainKeys == Tryz.prog.plainKeys)) = true := by kernel_rfl
theorem sessionLimits_k23 : (sessionLimitsC.shortTexts.isNone) = true := by kernel_rfl
theorem sessionLimits_k24 : (Tryz.prog.stopsHeard) = true := by kernel_rfl
theorem sessionLimits_k25 : (Tryz.prog.mayEnter) = true := by kernel_rfl
theorem sessionLimits_k26 : ((sessionLimitsC.lifted == Tryz.prog.liftsFinal)) = true := by kernel_rfl
theorem sessionLimits_k27 : ((Tryz.prog.make == some sessionLimitsC.make)) = true := by kernel_rfl
theorem sessionLimits_k28 : ((sessionLimitsC.kinds == (if sessionLimitsC.domain.isEmpty then [] else Tryz.f4.params.toList.map fun t => match Tryz.prog.underlying t with | some (.int k) => some k | _ => none))) = true := by kernel_rfl
theorem sessionLimits_k29 : ((sessionLimitsC.pinned == sessionLimitsC.pinnedBy)) = true := by kernel_rfl
theorem sessionLimits_k30 : ((sessionLimitsC.veiled == (Tryz.f4.params.toList ++ sessionLimitsS.plain.varTypes Tryz.prog ++ Tryz.f4.resultTypes.toList).any (Tryz.prog.veiledRec ·))) = true := by kernel_rfl
theorem sessionLimits_k31 : (sessionLimitsC.veiledFits Tryz.prog Tryz.f4.params.toList (Tryz.f4.params.toList ++ sessionLimitsS.plain.varTypes Tryz.prog ++ Tryz.f4.resultTypes.toList)) = true := by kernel_rfl
theorem sessionLimits_named : Tryz.prog.funcNamed sessionLimitsC.func = some 4 := by kernel_rfl
theorem sessionLimits_inst : Tryz.f4.isInstance Tryz.prog sessionLimitsC.origin sessionLimitsC.targs := of_decide_eq_true (by kernel_rfl)
theorem sessionLimits_wrap : Tryz.f4.isWrapper Tryz.prog sessionLimitsC.wrapper sessionLimitsC.mainSum := by unfold Func.isWrapper; first | (rw [if_pos (by decide +kernel)]; kernel_rfl) | (rw [if_neg (by decide +kernel)]; exact ⟨rfl, rfl⟩)
theorem sessionLimits_facts : joinedFacts Tryz.prog 4 Tryz.f4 sessionLimitsS sessionLimitsC = true := by
  unfold joinedFacts
  exact (and2 (and2 (and2 (and2 (and2 (and2 (and2 (and2 (and2 (and2 (and2 (and2 (and2 (and2 (and2 (and2 (and2 (and2 (and2 (and2 (and2 (and2 (and2 (and2 (and2 (and2 (and2 (and2 (and2 (and2 (and2 sessionLimits_k0 sessionLimits_k1) sessionLimits_k2) sessionLimits_k3) sessionLimits_k4) sessionLimits_k5) sessionLimits_k6) sessionLimits_k7) sessionLimits_k8) sessionLimits_k9) sessionLimits_k10) sessionLimits_k11) sessionLimits_k12) sessionLimits_k13) sessionLimits_k14) sessionLimits_k15) sessionLimits_k16) sessionLimits_k17) sessionLimits_k18) sessionLimits_k19) sessionLimits_k20) sessionLimits_k21) sessionLimits_k22) sessionLimits_k23) sessionLimits_k24) sessionLimits_k25) sessionLimits_k26) sessionLimits_k27) (by kernel_rfl)) sessionLimits_k29) sessionLimits_k30) sessionLimits_k31)
end Go.Proofs.YtmkcndaidopkpaaGreatDoor
