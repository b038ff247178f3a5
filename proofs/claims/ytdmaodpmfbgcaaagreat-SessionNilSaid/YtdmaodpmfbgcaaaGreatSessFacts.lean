/-
  The closed facts of the row of sessionNil, one by one.
-/
import Derived.Test.YtdmaodpmfbgcaaaGreatRows
import Derived.ProofKit
set_option maxRecDepth 100000
namespace Go.Proofs.YtdmaodpmfbgcaaaGreat
theorem sessionNil_k0 : (Rows.sessionNilRow.wf (OpenSpec.ofChange Rows.sessionNilSpec)) = true := by kernel_rfl
theorem sessionNil_k1 : (laidOutB Tryz.prog) = true := by kernel_rfl
theorem sessionNil_k2 : (mapsRowed Tryz.prog) = true := by kernel_rfl
theorem sessionNil_k3 : (Tryz.f4.params.all (Tryz.prog.readableRec ·)) = true := by kernel_rfl
theorem sessionNil_k4 : (namedTie Tryz.prog Rows.sessionNilRow.named Rows.sessionNilSpec.vars) = true := by kernel_rfl
theorem sessionNil_k5 : (Rows.sessionNilRow.stops == []) = true := by kernel_rfl
theorem sessionNil_k6 : (Tryz.prog.stops == []) = true := by kernel_rfl
theorem sessionNil_k7 : (Rows.sessionNilRow.knobs == []) = true := by kernel_rfl
theorem sessionNil_k8 : (Tryz.prog.stopKnobs == []) = true := by kernel_rfl
theorem sessionNil_k9 : (Rows.sessionNilRow.inPlace == Tryz.prog.inPlace 4) = true := by kernel_rfl
theorem sessionNil_k10 : (Rows.sessionNilRow.unfollowed == Tryz.prog.unfollowed 4) = true := by kernel_rfl
theorem sessionNil_k11 : (Rows.sessionNilRow.recurses == Tryz.prog.recurses 4) = true := by kernel_rfl
theorem sessionNil_k12 : (Rows.sessionNilRow.named == Tryz.prog.varsNamed 4) = true := by kernel_rfl
theorem sessionNil_k13 : (Rows.sessionNilRow.maps == (Tryz.f4.params.toList ++ Rows.sessionNilSpec.plain.varTypes Tryz.prog).any (Tryz.prog.mapsRec ·)) = true := by kernel_rfl
theorem sessionNil_k14 : (Rows.sessionNilRow.ifaces == (Tryz.f4.params.toList ++ Rows.sessionNilSpec.plain.varTypes Tryz.prog).any (Tryz.prog.ifacesRec ·)) = true := by kernel_rfl
theorem sessionNil_k15 : (Rows.sessionNilRow.mapsOut == Tryz.prog.mapsAmong Tryz.f4.resultTypes.toList) = true := by kernel_rfl
theorem sessionNil_k16 : (Rows.sessionNilRow.loops == (Tryz.f4.params.toList ++ Rows.sessionNilSpec.plain.varTypes Tryz.prog).any (Tryz.prog.loopsFrom ·)) = true := by kernel_rfl
theorem sessionNil_k17 : (Rows.sessionNilRow.wideKeys == (Tryz.f4.params.toList ++ Rows.sessionNilSpec.plain.varTypes Tryz.prog ++ Tryz.f4.resultTypes.toList).any (Tryz.prog.wideKeysFrom ·)) = true := by kernel_rfl
theorem sessionNil_k18 : (Rows.sessionNilSpec.vars.all (Tryz.prog.varReadable ·)) = true := by kernel_rfl
theorem sessionNil_k19 : (Tryz.f4.resultTypes.all (fun t => Tryz.prog.readableRec t && decide (t < Tryz.prog.types.size))) = true := by kernel_rfl
theorem sessionNil_k20 : (Rows.sessionNilRow.ifacesOut == Tryz.f4.resultTypes.toList.any (Tryz.prog.ifacesRec ·)) = true := by kernel_rfl
theorem sessionNil_k21 : (Rows.sessionNilRow.loopsOut == Tryz.f4.resultTypes.toList.any (Tryz.prog.loopsFrom ·)) = true := by kernel_rfl
theorem sessionNil_k22 : (Rows.sessionNilRow.plainKeys == Tryz.prog.plainKeys) = true := by kernel_rfl
theorem sessionNil_k23 : (Rows.sessionNilRow.shortTexts.isNone) = true := by kernel_rfl
theorem sessionNil_k24 : (Tryz.prog.stopsHeard) = true := by kernel_rfl
theorem sessionNil_k25 : (Tryz.prog.mayEnter) = true := by kernel_rfl
theorem sessionNil_k26 : (Rows.sessionNilRow.lifted == Tryz.prog.liftsFinal) = true := by kernel_rfl
theorem sessionNil_k27 : (Tryz.prog.make == some Rows.sessionNilRow.make) = true := by kernel_rfl
theorem sessionNil_k28 : (Rows.sessionNilRow.kinds == (if Rows.sessionNilRow.domain.isEmpty then [] else Tryz.f4.params.toList.map fun t => match Tryz.prog.underlying t with | some (.int k) => some k | _ => Option.none)) = true := by kernel_rfl
theorem sessionNil_k29 : (Rows.sessionNilRow.pinned == Rows.sessionNilRow.pinnedBy) = true := by kernel_rfl
theorem sessionNil_k30 : (Rows.sessionNilRow.veiled == (Tryz.f4.params.toList ++ Rows.sessionNilSpec.plain.varTypes Tryz.prog ++ Tryz.f4.resultTypes.toList).any (Tryz.prog.veiledRec ·)) = true := by kernel_rfl
theorem sessionNil_k31 : (Rows.sessionNilRow.veiledFits Tryz.prog Tryz.f4.params.toList (Tryz.f4.params.toList ++ Rows.sessionNilSpec.plain.varTypes Tryz.prog ++ Tryz.f4.resultTypes.toList)) = true := by kernel_rfl
theorem and_true {a b : Bool} (ha : a = true) (hb : b = true) : (a && b) = true := by rw [ha, hb]; rfl
theorem sessionNil_facts : joinedFacts Tryz.prog 4 Tryz.f4 Rows.sessionNilSpec Rows.sessionNilRow = true := and_true (and_true (and_true (and_true (and_true (and_true (and_true (and_true (and_true (and_true (and_true (and_true (and_true (and_true (and_true (and_true (and_true (and_true (and_true (and_true (and_true (and_true (and_true (and_true (and_true (and_true (and_true (and_true (and_true (and_true (and_true sessionNil_k0 sessionNil_k1) sessionNil_k2) sessionNil_k3) sessionNil_k4) sessionNil_k5) sessionNil_k6) sessionNil_k7) sessionNil_k8) sessionNil_k9) sessionNil_k10) sessionNil_k11) sessionNil_k12) sessionNil_k13) sessionNil_k14) sessionNil_k15) sessionNil_k16) sessionNil_k17) sessionNil_k18) sessionNil_k19) sessionNil_k20) sessionNil_k21) sessionNil_k22) sessionNil_k23) sessionNil_k24) sessionNil_k25) sessionNil_k26) sessionNil_k27) sessionNil_k28) sessionNil_k29) sessionNil_k30) sessionNil_k31
theorem sessionNil_named : Tryz.prog.funcNamed Rows.sessionNilRow.func = some 4 := by kernel_rfl
theorem sessionNil_instance : Tryz.f4.isInstance Tryz.prog Rows.sessionNilRow.origin Rows.sessionNilRow.targs := of_decide_eq_true (by kernel_rfl)
theorem sessionNil_wrapper : Tryz.f4.isWrapper Tryz.prog Rows.sessionNilRow.wrapper Rows.sessionNilRow.mainSum := by unfold Func.isWrapper; first | (rw [if_pos (by decide +kernel)]; kernel_rfl) | (rw [if_neg (by decide +kernel)]; exact ⟨rfl, rfl⟩)
end Go.Proofs.YtdmaodpmfbgcaaaGreat
