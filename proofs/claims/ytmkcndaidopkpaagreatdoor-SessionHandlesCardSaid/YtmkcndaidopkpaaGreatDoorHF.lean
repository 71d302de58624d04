/- SessionHandles: the closed facts of its row. -/
import Derived.Test.YtmkcndaidopkpaaGreatDoorRows
import Derived.ProofKit
import Derived.KernelRfl
namespace Go.Proofs.YtmkcndaidopkpaaGreatDoor
open Go
theorem and2 {a b : Bool} (ha : a = true) (hb : b = true) : (a && b) = true := by rw [ha, hb]; rfl
abbrev sessionHandlesC : OpenClaim := Rows.sessionHandlesRow
abbrev sessionHandlesS : ChangeSpec := Rows.sessionHandlesSpec
theorem sessionHandles_k0 : (sessionHandlesC.wf (OpenSpec.ofChange sessionHandlesS)) = true := by kernel_rfl
theorem sessionHandles_k1 : (laidOutB Tryz.prog) = true := by kernel_rfl
theorem sessionHandles_k2 : (mapsRowed Tryz.prog) = true := by kernel_rfl
theorem sessionHandles_k3 : (Tryz.f3.params.all (Tryz.prog.readableRec ·)) = true := by kernel_rfl
theorem sessionHandles_k4 : (namedTie Tryz.prog sessionHandlesC.named sessionHandlesS.vars) = true := by kernel_rfl
theorem sessionHandles_k5 : ((sessionHandlesC.stops == [])) = true := by kernel_rfl
theorem sessionHandles_k6 : ((Tryz.prog.stops == [])) = true := by kernel_rfl
theorem sessionHandles_k7 : ((sessionHandlesC.knobs == [])) = true := by kernel_rfl
theorem sessionHandles_k8 : ((Tryz.prog.stopKnobs == [])) = true := by kernel_rfl
theorem sessionHandles_k9 : ((sessionHandlesC.inPlace == Tryz.prog.inPlace 3)) = true := by kernel_rfl
theorem sessionHandles_k10 : ((sessionHandlesC.unfollowed == Tryz.prog.unfollowed 3)) = true := by kernel_rfl
theorem sessionHandles_k11 : ((sessionHandlesC.recurses == Tryz.prog.recurses 3)) = true := by kernel_rfl
theorem sessionHandles_k12 : ((sessionHandlesC.named == Tryz.prog.varsNamed 3)) = true := by kernel_rfl
theorem sessionHandles_k13 : ((sessionHandlesC.maps == (Tryz.f3.params.toList ++ sessionHandlesS.plain.varTypes Tryz.prog).any (Tryz.prog.mapsRec ·))) = true := by kernel_rfl
theorem sessionHandles_k14 : ((sessionHandlesC.ifaces == (Tryz.f3.params.toList ++ sessionHandlesS.plain.varTypes Tryz.prog).any (Tryz.prog.ifacesRec ·))) = true := by kernel_rfl
theorem sessionHandles_k15 : ((sessionHandlesC.mapsOut == Tryz.prog.mapsAmong Tryz.f3.resultTypes.toList)) = true := by kernel_rfl
theorem sessionHandles_k16 : ((sessionHandlesC.loops == (Tryz.f3.params.toList ++ sessionHandlesS.plain.varTypes Tryz.prog).any (Tryz.prog.loopsFrom ·))) = true := by kernel_rfl
theorem sessionHandles_k17 : ((sessionHandlesC.wideKeys == (Tryz.f3.params.toList ++ sessionHandlesS.plain.varTypes Tryz.prog ++ Tryz.f3.resultTypes.toList).any (Tryz.prog.wideKeysFrom ·))) = true := by kernel_rfl
theorem sessionHandles_k18 : (sessionHandlesS.vars.all (Tryz.prog.varReadable ·)) = true := by kernel_rfl
theorem sessionHandles_k19 : (Tryz.f3.resultTypes.all (fun t => Tryz.prog.readableRec t && decide (t < Tryz.prog.types.size))) = true := by kernel_rfl
theorem sessionHandles_k20 : ((sessionHandlesC.ifacesOut == Tryz.f3.resultTypes.toList.any (Tryz.prog.ifacesRec ·))) = true := by kernel_rfl
theorem sessionHandles_k21 : ((sessionHandlesC.loopsOut == Tryz.f3.resultTypes.toList.any (Tryz.prog.loopsFrom ·))) = true := by kernel_rfl
theorem sessionHandles_k22 : ((sessionHandlesC.plainKeys == Tryz.prog.plainKeys)) = true := by kernel_rfl
theorem sessionHandles_k23 : (sessionHandlesC.shortTexts.isNone) = true := by kernel_rfl
theorem sessionHandles_k24 : (Tryz.prog.stopsHeard) = true := by kernel_rfl
theorem sessionHandles_k25 : (Tryz.prog.mayEnter) = true := by kernel_rfl
theorem sessionHandles_k26 : ((sessionHandlesC.lifted == Tryz.prog.liftsFinal)) = true := by kernel_rfl
theorem sessionHandles_k27 : ((Tryz.prog.make == some sessionHandlesC.make)) = true := by kernel_rfl
theorem sessionHandles_k28 : ((sessionHandlesC.kinds == (if sessionHandlesC.domain.isEmpty then [] else Tryz.f3.params.toList.map fun t => match Tryz.prog.underlying t with | some (.int k) => some k | _ => none))) = true := by kernel_rfl
theorem sessionHandles_k29 : ((sessionHandlesC.pinned == sessionHandlesC.pinnedBy)) = true := by kernel_rfl
theorem sessionHandles_k30 : ((sessionHandlesC.veiled == (Tryz.f3.params.toList ++ sessionHandlesS.plain.varTypes Tryz.prog ++ Tryz.f3.resultTypes.toList).any (Tryz.prog.veiledRec ·))) = true := by kernel_rfl
theorem sessionHandles_k31 : (sessionHandlesC.veiledFits Tryz.prog Tryz.f3.params.toList (Tryz.f3.params.toList ++ sessionHandlesS.plain.varTypes Tryz.prog ++ Tryz.f3.resultTypes.toList)) = true := by kernel_rfl
theorem sessionHandles_named : Tryz.prog.funcNamed sessionHandlesC.func = some 3 := by kernel_rfl
theorem sessionHandles_inst : Tryz.f3.isInstance Tryz.prog sessionHandlesC.origin sessionHandlesC.targs := of_decide_eq_true (by kernel_rfl)
theorem sessionHandles_wrap : Tryz.f3.isWrapper Tryz.prog sessionHandlesC.wrapper sessionHandlesC.mainSum := by unfold Func.isWrapper; first | (rw [if_pos (by decide +kernel)]; kernel_rfl) | (rw [if_neg (by decide +kernel)]; exact ⟨rfl, rfl⟩)
theorem sessionHandles_facts : joinedFacts Tryz.prog 3 Tryz.f3 sessionHandlesS sessionHandlesC = true := by
  unfold joinedFacts
  exact (and2 (and2 (and2 (and2 (and2 (and2 (and2 (and2 (and2 (and2 (and2 (and2 (and2 (and2 (and2 (and2 (and2 (and2 (and2 (and2 (and2 (and2 (and2 (and2 (and2 (and2 (and2 (and2 (and2 (and2 (and2 sessionHandles_k0 sessionHandles_k1) sessionHandles_k2) sessionHandles_k3) sessionHandles_k4) sessionHandles_k5) sessionHandles_k6) sessionHandles_k7) sessionHandles_k8) sessionHandles_k9) sessionHandles_k10) sessionHandles_k11) sessionHandles_k12) sessionHandles_k13) sessionHandles_k14) sessionHandles_k15) sessionHandles_k16) sessionHandles_k17) sessionHandles_k18) sessionHandles_k19) sessionHandles_k20) sessionHandles_k21) sessionHandles_k22) sessionHandles_k23) sessionHandles_k24) sessionHandles_k25) sessionHandles_k26) sessionHandles_k27) (by kernel_rfl)) sessionHandles_k29) sessionHandles_k30) sessionHandles_k31)
end Go.Proofs.YtmkcndaidopkpaaGreatDoor
