/-
  The closed facts of the row of worldNil, one by one.
-/
import Derived.Test.YtdmaodpmfbgcaaaGreatRows
import Derived.ProofKit
set_option maxRecDepth 100000
namespace Go.Proofs.YtdmaodpmfbgcaaaGreat
theorem worldNil_k0 : (Rows.worldNilRow.wf (OpenSpec.ofChange Rows.worldNilSpec)) = true := by kernel_rfl
theorem worldNil_k1 : (laidOutB Tryz.prog) = true := by kernel_rfl
theorem worldNil_k2 : (mapsRowed Tryz.prog) = true := by kernel_rfl
theorem worldNil_k3 : (Tryz.f6.params.all (Tryz.prog.readableRec ·)) = true := by kernel_rfl
theorem worldNil_k4 : (namedTie Tryz.prog Rows.worldNilRow.named Rows.worldNilSpec.vars) = true := by kernel_rfl
theorem worldNil_k5 : (Rows.worldNilRow.stops == []) = true := by kernel_rfl
theorem worldNil_k6 : (Tryz.prog.stops == []) = true := by kernel_rfl
theorem worldNil_k7 : (Rows.worldNilRow.knobs == []) = true := by kernel_rfl
theorem worldNil_k8 : (Tryz.prog.stopKnobs == []) = true := by kernel_rfl
theorem worldNil_k9 : (Rows.worldNilRow.inPlace == Tryz.prog.inPlace 6) = true := by kernel_rfl
theorem worldNil_k10 : (Rows.worldNilRow.unfollowed == Tryz.prog.unfollowed 6) = true := by kernel_rfl
theorem worldNil_k11 : (Rows.worldNilRow.recurses == Tryz.prog.recurses 6) = true := by kernel_rfl
theorem worldNil_k12 : (Rows.worldNilRow.named == Tryz.prog.varsNamed 6) = true := by kernel_rfl
theorem worldNil_k13 : (Rows.worldNilRow.maps == (Tryz.f6.params.toList ++ Rows.worldNilSpec.plain.varTypes Tryz.prog).any (Tryz.prog.mapsRec ·)) = true := by kernel_rfl
theorem worldNil_k14 : (Rows.worldNilRow.ifaces == (Tryz.f6.params.toList ++ Rows.worldNilSpec.plain.varTypes Tryz.prog).any (Tryz.prog.ifacesRec ·)) = true := by kernel_rfl
theorem worldNil_k15 : (Rows.worldNilRow.mapsOut == Tryz.prog.mapsAmong Tryz.f6.resultTypes.toList) = true := by kernel_rfl
theorem worldNil_k16 : (Rows.worldNilRow.loops == (Tryz.f6.params.toList ++ Rows.worldNilSpec.plain.varTypes Tryz.prog).any (Tryz.prog.loopsFrom ·)) = true := by kernel_rfl
theorem worldNil_k17 : (Rows.worldNilRow.wideKeys == (Tryz.f6.params.toList ++ Rows.worldNilSpec.plain.varTypes Tryz.prog ++ Tryz.f6.resultTypes.toList).any (Tryz.prog.wideKeysFrom ·)) = true := by kernel_rfl
theorem worldNil_k18 : (Rows.worldNilSpec.vars.all (Tryz.prog.varReadable ·)) = true := by kernel_rfl
theorem worldNil_k19 : (Tryz.f6.resultTypes.all (fun t => Tryz.prog.readableRec t && decide (t < Tryz.prog.types.size))) = true := by kernel_rfl
theorem worldNil_k20 : (Rows.worldNilRow.ifacesOut == Tryz.f6.resultTypes.toList.any (Tryz.prog.ifacesRec ·)) = true := by kernel_rfl
theorem worldNil_k21 : (Rows.worldNilRow.loopsOut == Tryz.f6.resultTypes.toList.any (Tryz.prog.loopsFrom ·)) = true := by kernel_rfl
theorem worldNil_k22 : (Rows.worldNilRow.plainKeys == Tryz.prog.plainKeys) = true := by kernel_rfl
theorem worldNil_k23 : (Rows.worldNilRow.shortTexts.isNone) = true := by kernel_rfl
theorem worldNil_k24 : (Tryz.prog.stopsHeard) = true := by kernel_rfl
theorem worldNil_k25 : (Tryz.prog.mayEnter) = true := by kernel_rfl
theorem worldNil_k26 : (Rows.worldNilRow.lifted == Tryz.prog.liftsFinal) = true := by kernel_rfl
theorem worldNil_k27 : (Tryz.prog.make == some Rows.worldNilRow.make) = true := by kernel_rfl
theorem worldNil_k28 : (Rows.worldNilRow.kinds == (if Rows.worldNilRow.domain.isEmpty then [] else Tryz.f6.params.toList.map fun t => match Tryz.prog.underlying t with | some (.int k) => some k | _ => Option.none)) = true := by kernel_rfl
theorem worldNil_k29 : (Rows.worldNilRow.pinned == Rows.worldNilRow.pinnedBy) = true := by kernel_rfl
theorem worldNil_k30 : (Rows.worldNilRow.veiled == (Tryz.f6.params.toList ++ Rows.worldNilSpec.plain.varTypes Tryz.prog ++ Tryz.f6.resultTypes.toList).any (Tryz.prog.veiledRec ·)) = true := by kernel_rfl
theorem worldNil_k31 : (Rows.worldNilRow.veiledFits Tryz.prog Tryz.f6.params.toList (Tryz.f6.params.toList ++ Rows.worldNilSpec.plain.varTypes Tryz.prog ++ Tryz.f6.resultTypes.toList)) = true := by kernel_rfl
theorem and_true {a b : Bool} (ha : a = true) (hb : b = true) : (a && b) = true := by rw [ha, hb]; rfl
theorem worldNil_facts : joinedFacts Tryz.prog 6 Tryz.f6 Rows.worldNilSpec Rows.worldNilRow = true := and_true (and_true (and_true (and_true (and_true (and_true (and_true (and_true (and_true (and_true (and_true (and_true (and_true (and_true (and_true (and_true (and_true (and_true (and_true (and_true (and_true (and_true (and_true (and_true (and_true (and_true (and_true (and_true (and_true (and_true (and_true worldNil_k0 worldNil_k1) worldNil_k2) worldNil_k3) worldNil_k4) worldNil_k5) worldNil_k6) worldNil_k7) worldNil_k8) worldNil_k9) worldNil_k10) worldNil_k11) worldNil_k12) worldNil_k13) worldNil_k14) worldNil_k15) worldNil_k16) worldNil_k17) worldNil_k18) worldNil_k19) worldNil_k20) worldNil_k21) worldNil_k22) worldNil_k23) worldNil_k24) worldNil_k25) worldNil_k26) worldNil_k27) worldNil_k28) worldNil_k29) worldNil_k30) worldNil_k31
theorem worldNil_named : Tryz.prog.funcNamed Rows.worldNilRow.func = some 6 := by kernel_rfl
theorem worldNil_instance : Tryz.f6.isInstance Tryz.prog Rows.worldNilRow.origin Rows.worldNilRow.targs := of_decide_eq_true (by kernel_rfl)
theorem worldNil_wrapper : Tryz.f6.isWrapper Tryz.prog Rows.worldNilRow.wrapper Rows.worldNilRow.mainSum := by unfold Func.isWrapper; first | (rw [if_pos (by decide +kernel)]; kernel_rfl) | (rw [if_neg (by decide +kernel)]; exact ⟨rfl, rfl⟩)
end Go.Proofs.YtdmaodpmfbgcaaaGreat
