/-
  The tables are the program's own.
-/
import Derived.Test.YtdmaodpmfbgcaaaGreatWV3
import Derived.Test.YtdmaodpmfbgcaaaGreatWTab
import Derived.KernelRfl
set_option maxRecDepth 1000000
namespace Go.Proofs.Tryz
open Go Go.V
noncomputable def E (orc : FuncId → List AVal → Option AVal) : Env := ⟨prog, tys, fns, plans, orc⟩
theorem tysOk : T.allp (tyOkB prog) 1 0 tys = true := by kernel_rfl
noncomputable def keys : List Nat := (List.range 543).filter (fun i => (fns.get i).isSome)
theorem fnsSame : keys.map (fun i => fns.get i) = keys.map (fun i => prog.funcs[i]?) := by kernel_rfl
theorem fnsIn : T.allp (fun i _ => Nat.blt i 543) 1 0 fns = true := by kernel_rfl
theorem fnsOk0 : (List.range' 0 40).all (fnOkB plans fns) = true := by kernel_rfl
theorem fnsOk1 : (List.range' 40 40).all (fnOkB plans fns) = true := by kernel_rfl
theorem fnsOk2 : (List.range' 80 40).all (fnOkB plans fns) = true := by kernel_rfl
theorem fnsOk3 : (List.range' 120 40).all (fnOkB plans fns) = true := by kernel_rfl
theorem fnsOk4 : (List.range' 160 40).all (fnOkB plans fns) = true := by kernel_rfl
theorem fnsOk5 : (List.range' 200 40).all (fnOkB plans fns) = true := by kernel_rfl
theorem fnsOk6 : (List.range' 240 40).all (fnOkB plans fns) = true := by kernel_rfl
theorem fnsOk7 : (List.range' 280 40).all (fnOkB plans fns) = true := by kernel_rfl
theorem fnsOk8 : (List.range' 320 40).all (fnOkB plans fns) = true := by kernel_rfl
theorem fnsOk9 : (List.range' 360 40).all (fnOkB plans fns) = true := by kernel_rfl
theorem fnsOk10 : (List.range' 400 40).all (fnOkB plans fns) = true := by kernel_rfl
theorem fnsOk11 : (List.range' 440 40).all (fnOkB plans fns) = true := by kernel_rfl
theorem fnsOk12 : (List.range' 480 40).all (fnOkB plans fns) = true := by kernel_rfl
theorem fnsOk13 : (List.range' 520 40).all (fnOkB plans fns) = true := by kernel_rfl
theorem mixed : prog.follows .mixedOrders = true := by kernel_rfl

theorem envOk {orc : FuncId → List AVal → Option AVal} {Γ0 : Ctx} (hd : ∀ b, ¬ Γ0.dom b) (ho : OrcOk (E orc) Γ0) : EnvOk (E orc) Γ0 := by
  refine EnvOk.of_checks hd ho mixed tysOk fun f fn h => ?_
  have h' : fns.get f = some fn := h
  have hlt := T.allp_get _ _ _ _ _ _ fnsIn h'
  simp only [Nat.one_mul, Nat.add_zero, nblt, decide_eq_true_eq] at hlt
  have hk : f ∈ keys := List.mem_filter.2 ⟨List.mem_range.2 hlt, by rw [h']; rfl⟩
  refine ⟨(same_at fnsSame hk).symm.trans h', ?_⟩
  show fnOkB plans fns f = true
  by_cases h0 : f < 40
  · exact fnOkB_at fnsOk0 (by omega) (by omega)
  by_cases h1 : f < 80
  · exact fnOkB_at fnsOk1 (by omega) (by omega)
  by_cases h2 : f < 120
  · exact fnOkB_at fnsOk2 (by omega) (by omega)
  by_cases h3 : f < 160
  · exact fnOkB_at fnsOk3 (by omega) (by omega)
  by_cases h4 : f < 200
  · exact fnOkB_at fnsOk4 (by omega) (by omega)
  by_cases h5 : f < 240
  · exact fnOkB_at fnsOk5 (by omega) (by omega)
  by_cases h6 : f < 280
  · exact fnOkB_at fnsOk6 (by omega) (by omega)
  by_cases h7 : f < 320
  · exact fnOkB_at fnsOk7 (by omega) (by omega)
  by_cases h8 : f < 360
  · exact fnOkB_at fnsOk8 (by omega) (by omega)
  by_cases h9 : f < 400
  · exact fnOkB_at fnsOk9 (by omega) (by omega)
  by_cases h10 : f < 440
  · exact fnOkB_at fnsOk10 (by omega) (by omega)
  by_cases h11 : f < 480
  · exact fnOkB_at fnsOk11 (by omega) (by omega)
  by_cases h12 : f < 520
  · exact fnOkB_at fnsOk12 (by omega) (by omega)
  by_cases h13 : f < 560
  · exact fnOkB_at fnsOk13 (by omega) (by omega)
  omega
end Go.Proofs.Tryz
