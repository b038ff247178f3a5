/-
  The closed facts of the row of centerNil, one by one.
-/
import Derived.Test.YtdmaodpmfbgcaaaGreatRows
import Derived.ProofKit
set_option maxRecDepth 100000
namespace Go.Proofs.YtdmaodpmfbgcaaaGreat
theorem centerNil_k0 : (Rows.centerNilRow.wf (OpenSpec.ofChange Rows.centerNilSpec)) = true := by kernel_rfl
theorem centerNil_k1 : (laidOutB Tryz.prog) = true := by kernel_rfl
theorem centerNil_k2 : (mapsRowed Tryz.prog) = true := by kernel_rfl
theorem centerNil_k3 : (Tryz.f5.params.all (Tryz.prog.readableRec ·)) = true := by kernel_rfl
theorem centerNil_k4 : (namedTie Tryz.prog Rows.centerNilRow.named Rows.centerNilSpec.vars) = true := by kernel_rfl
theorem centerNil_k5 : (Rows.centerNilRow.stops == []) = true := by kernel_rfl
theorem centerNil_k6 : (Tryz.prog.stops == []) = true := by kernel_rfl
theorem centerNil_k7 : (Rows.centerNilRow.knobs == []) = true := by kernel_rfl
theorem centerNil_k8 : (Tryz.prog.stopKnobs == []) = true := by kernel_rfl
theorem centerNil_k9 : (Rows.centerNilRow.inPlace == Tryz.prog.inPlace 5) = true := by kernel_rfl
theorem centerNil_k10 : (Rows.centerNilRow.unfollowed == Tryz.prog.unfollowed 5) = true := by kernel_rfl
theorem centerNil_k11 : (Rows.centerNilRow.recurses == Tryz.prog.recurses 5) = true := by kernel_rfl
theorem centerNil_k12 : (Rows.centerNilRow.named == Tryz.prog.varsNamed 5) = true := by kernel_rfl
theorem centerNil_k13 : (Rows.centerNilRow.maps == (Tryz.f5.params.toList ++ Rows.centerNilSpec.plain.varTypes Tryz.prog).any (Tryz.prog.mapsRec ·)) = true := by kernel_rfl
theorem centerNil_k14 : (Rows.centerNilRow.ifaces == (Tryz.f5.params.toList ++ Rows.centerNilSpec.plain.varTypes Tryz.prog).any (Tryz.prog.ifacesRec ·)) = true := by kernel_rfl
theorem centerNil_k15 : (Rows.centerNilRow.mapsOut == Tryz.prog.mapsAmong Tryz.f5.resultTypes.toList) = true := by kernel_rfl
theorem centerNil_k16 : (Rows.centerNilRow.loops == (Tryz.f5.params.toList ++ Rows.centerNilSpec.plain.varTypes Tryz.prog).any (Tryz.prog.loopsFrom ·)) = true := by kernel_rfl
theorem centerNil_k17 : (Rows.centerNilRow.wideKeys == (Tryz.f5.params.toList ++ Rows.centerNilSpec.plain.varTypes Tryz.prog ++ Tryz.f5.resultTypes.toList).any (Tryz.prog.wideKeysFrom ·)) = true := by kernel_rfl
theorem centerNil_k18 : (Rows.centerNilSpec.vars.all (Tryz.prog.varReadable ·)) = true := by kernel_rfl
theorem centerNil_k19 : (Tryz.f5.resultTypes.all (fun t => Tryz.prog.readableRec t && decide (t < Tryz.prog.types.size))) = true := by kernel_rfl
theorem centerNil_k20 : (Rows.centerNilRow.ifacesOut == Tryz.f5.resultTypes.toList.any (Tryz.prog.ifacesRec ·)) = true := by kernel_rfl
theorem centerNil_k21 : (Rows.centerNilRow.loopsOut == Tryz.f5.resultTypes.toList.any (Tryz.prog.loopsFrom ·)) = true := by kernel_rfl
theorem centerNil_k22 : (Rows.centerNilRow.plainKeys == Tryz.prog.plainKeys) = true := by kernel_rfl
theorem centerNil_k23 : (Rows.centerNilRow.shortTexts.isNone) = true := by kernel_rfl
theorem centerNil_k24 : (Tryz.prog.stopsHeard) = true := by kernel_rfl
theorem centerNil_k25 : (Tryz.prog.mayEnter) = true := by kernel_rfl
theorem centerNil_k26 : (Rows.centerNilRow.lifted == Tryz.prog.liftsFinal) = true := by kernel_rfl
theorem centerNil_k27 : (Tryz.prog.make == some Rows.centerNilRow.make) = true := by kernel_rfl
theorem centerNil_k28 : (Rows.centerNilRow.kinds == (if Rows.centerNilRow.domain.isEmpty then [] else Tryz.f5.params.toList.map fun t => match Tryz.prog.underlying t with | some (.int k) => some k | _ => Option.none)) = true := by kernel_rfl
theorem centerNil_k29 : (Rows.centerNilRow.pinned == Rows.centerNilRow.pinnedBy) = true := by kernel_rfl
theorem centerNil_k30 : (Rows.centerNilRow.veiled == (Tryz.f5.params.toList ++ Rows.centerNilSpec.plain.varTypes Tryz.prog ++ Tryz.f5.resultTypes.toList).any (Tryz.prog.veiledRec ·)) = true := by kernel_rfl
theorem centerNil_k31 : (Rows.centerNilRow.veiledFits Tryz.prog Tryz.f5.params.toList (Tryz.f5.params.toList ++ Rows.centerNilSpec.plain.varTypes Tryz.prog ++ Tryz.f5.resultTypes.toList)) = true := by kernel_rfl
theorem and_true {a b : Bool} (ha : a = true) (hb : b = true) : (a && b) = true := by rw [ha, hb]; rfl
theorem centerNil_facts : joinedFacts Tryz.prog 5 Tryz.f5 Rows.centerNilSpec Rows.centerNilRow = true := and_true (and_true (and_true (and_true (and_true (and_true (and_true (and_true (and_true (and_true (and_true (and_true (and_true (and_true (and_true (and_true (and_true (and_true (and_true (and_true (and_true (and_true (and_true (and_true (and_true (and_true (and_true (and_true (and_true (and_true (and_true centerNil_k0 centerNil_k1) centerNil_k2) centerNil_k3) centerNil_k4) centerNil_k5) centerNil_k6) centerNil_k7) centerNil_k8) centerNil_k9) centerNil_k10) centerNil_k11) centerNil_k12) centerNil_k13) centerNil_k14) centerNil_k15) centerNil_k16) centerNil_k17) centerNil_k18) centerNil_k19) centerNil_k20) centerNil_k21) centerNil_k22) centerNil_k23) centerNil_k24) centerNil_k25) centerNil_k26) centerNil_k27) centerNil_k28) centerNil_k29) centerNil_k30) centerNil_k31
theorem centerNil_named : Tryz.prog.funcNamed Rows.centerNilRow.func = some 5 := by kernel_rfl
theorem centerNil_instance : Tryz.f5.isInstance Tryz.prog Rows.centerNilRow.origin Rows.centerNilRow.targs := of_decide_eq_true (by kernel_rfl)
theorem centerNil_wrapper : Tryz.f5.isWrapper Tryz.prog Rows.centerNilRow.wrapper Rows.centerNilRow.mainSum := by unfold Func.isWrapper; first | (rw [if_pos (by decide +kernel)]; kernel_rfl) | (rw [if_neg (by decide +kernel)]; exact ⟨rfl, rfl⟩)
end Go.Proofs.YtdmaodpmfbgcaaaGreat
