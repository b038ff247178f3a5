/-
  The closed facts of the row of scriptRight, one by one.
-/
import Derived.Test.YtdmaodpmfbgcaaaGreatRows
import Derived.ProofKit
set_option maxRecDepth 100000
namespace Go.Proofs.YtdmaodpmfbgcaaaGreat
theorem scriptRight_k0 : (Rows.scriptRightRow.wf (OpenSpec.ofChange Rows.scriptRightSpec)) = true := by kernel_rfl
theorem scriptRight_k1 : (laidOutB Tryz.prog) = true := by kernel_rfl
theorem scriptRight_k2 : (mapsRowed Tryz.prog) = true := by kernel_rfl
theorem scriptRight_k3 : (Tryz.f7.params.all (Tryz.prog.readableRec ·)) = true := by kernel_rfl
theorem scriptRight_k4 : (namedTie Tryz.prog Rows.scriptRightRow.named Rows.scriptRightSpec.vars) = true := by kernel_rfl
theorem scriptRight_k5 : (Rows.scriptRightRow.stops == []) = true := by kernel_rfl
theorem scriptRight_k6 : (Tryz.prog.stops == []) = true := by kernel_rfl
theorem scriptRight_k7 : (Rows.scriptRightRow.knobs == []) = true := by kernel_rfl
theorem scriptRight_k8 : (Tryz.prog.stopKnobs == []) = true := by kernel_rfl
theorem scriptRight_k9 : (Rows.scriptRightRow.inPlace == Tryz.prog.inPlace 7) = true := by kernel_rfl
theorem scriptRight_k10 : (Rows.scriptRightRow.unfollowed == Tryz.prog.unfollowed 7) = true := by kernel_rfl
theorem scriptRight_k11 : (Rows.scriptRightRow.recurses == Tryz.prog.recurses 7) = true := by kernel_rfl
theorem scriptRight_k12 : (Rows.scriptRightRow.named == Tryz.prog.varsNamed 7) = true := by kernel_rfl
theorem scriptRight_k13 : (Rows.scriptRightRow.maps == (Tryz.f7.params.toList ++ Rows.scriptRightSpec.plain.varTypes Tryz.prog).any (Tryz.prog.mapsRec ·)) = true := by kernel_rfl
theorem scriptRight_k14 : (Rows.scriptRightRow.ifaces == (Tryz.f7.params.toList ++ Rows.scriptRightSpec.plain.varTypes Tryz.prog).any (Tryz.prog.ifacesRec ·)) = true := by kernel_rfl
theorem scriptRight_k15 : (Rows.scriptRightRow.mapsOut == Tryz.prog.mapsAmong Tryz.f7.resultTypes.toList) = true := by kernel_rfl
theorem scriptRight_k16 : (Rows.scriptRightRow.loops == (Tryz.f7.params.toList ++ Rows.scriptRightSpec.plain.varTypes Tryz.prog).any (Tryz.prog.loopsFrom ·)) = true := by kernel_rfl
theorem scriptRight_k17 : (Rows.scriptRightRow.wideKeys == (Tryz.f7.params.toList ++ Rows.scriptRightSpec.plain.varTypes Tryz.prog ++ Tryz.f7.resultTypes.toList).any (Tryz.prog.wideKeysFrom ·)) = true := by kernel_rfl
theorem scriptRight_k18 : (Rows.scriptRightSpec.vars.all (Tryz.prog.varReadable ·)) = true := by kernel_rfl
theorem scriptRight_k19 : (Tryz.f7.resultTypes.all (fun t => Tryz.prog.readableRec t && decide (t < Tryz.prog.types.size))) = true := by kernel_rfl
theorem scriptRight_k20 : (Rows.scriptRightRow.ifacesOut == Tryz.f7.resultTypes.toList.any (Tryz.prog.ifacesRec ·)) = true := by kernel_rfl
theorem scriptRight_k21 : (Rows.scriptRightRow.loopsOut == Tryz.f7.resultTypes.toList.any (Tryz.prog.loopsFrom ·)) = true := by kernel_rfl
theorem scriptRight_k22 : (Rows.scriptRightRow.plainKeys == Tryz.prog.plainKeys) = true := by kernel_rfl
theorem scriptRight_k23 : (Rows.scriptRightRow.shortTexts.isNone) = true := by kernel_rfl
theorem scriptRight_k24 : (Tryz.prog.stopsHeard) = true := by kernel_rfl
theorem scriptRight_k25 : (Tryz.prog.mayEnter) = true := by kernel_rfl
theorem scriptRight_k26 : (Rows.scriptRightRow.lifted == Tryz.prog.liftsFinal) = true := by kernel_rfl
theorem scriptRight_k27 : (Tryz.prog.make == some Rows.scriptRightRow.make) = true := by kernel_rfl
theorem scriptRight_k28 : (Rows.scriptRightRow.kinds == (if Rows.scriptRightRow.domain.isEmpty then [] else Tryz.f7.params.toList.map fun t => match Tryz.prog.underlying t with | some (.int k) => some k | _ => Option.none)) = true := by kernel_rfl
theorem scriptRight_k29 : (Rows.scriptRightRow.pinned == Rows.scriptRightRow.pinnedBy) = true := by kernel_rfl
theorem scriptRight_k30 : (Rows.scriptRightRow.veiled == (Tryz.f7.params.toList ++ Rows.scriptRightSpec.plain.varTypes Tryz.prog ++ Tryz.f7.resultTypes.toList).any (Tryz.prog.veiledRec ·)) = true := by kernel_rfl
theorem scriptRight_k31 : (Rows.scriptRightRow.veiledFits Tryz.prog Tryz.f7.params.toList (Tryz.f7.params.toList ++ Rows.scriptRightSpec.plain.varTypes Tryz.prog ++ Tryz.f7.resultTypes.toList)) = true := by kernel_rfl
theorem and_true {a b : Bool} (ha : a = true) (hb : b = true) : (a && b) = true := by rw [ha, hb]; rfl
theorem scriptRight_facts : joinedFacts Tryz.prog 7 Tryz.f7 Rows.scriptRightSpec Rows.scriptRightRow = true := and_true (and_true (and_true (and_true (and_true (and_true (and_true (and_true (and_true (and_true (and_true (and_true (and_true (and_true (and_true (and_true (and_true (and_true (and_true (and_true (and_true (and_true (and_true (and_true (and_true (and_true (and_true (and_true (and_true (and_true (and_true scriptRight_k0 scriptRight_k1) scriptRight_k2) scriptRight_k3) scriptRight_k4) scriptRight_k5) scriptRight_k6) scriptRight_k7) scriptRight_k8) scriptRight_k9) scriptRight_k10) scriptRight_k11) scriptRight_k12) scriptRight_k13) scriptRight_k14) scriptRight_k15) scriptRight_k16) scriptRight_k17) scriptRight_k18) scriptRight_k19) scriptRight_k20) scriptRight_k21) scriptRight_k22) scriptRight_k23) scriptRight_k24) scriptRight_k25) scriptRight_k26) scriptRight_k27) scriptRight_k28) scriptRight_k29) scriptRight_k30) scriptRight_k31
theorem scriptRight_named : Tryz.prog.funcNamed Rows.scriptRightRow.func = some 7 := by kernel_rfl
theorem scriptRight_instance : Tryz.f7.isInstance Tryz.prog Rows.scriptRightRow.origin Rows.scriptRightRow.targs := of_decide_eq_true (by kernel_rfl)
theorem scriptRight_wrapper : Tryz.f7.isWrapper Tryz.prog Rows.scriptRightRow.wrapper Rows.scriptRightRow.mainSum := by unfold Func.isWrapper; first | (rw [if_pos (by decide +kernel)]; kernel_rfl) | (rw [if_neg (by decide +kernel)]; exact ⟨rfl, rfl⟩)
end Go.Proofs.YtdmaodpmfbgcaaaGreat
