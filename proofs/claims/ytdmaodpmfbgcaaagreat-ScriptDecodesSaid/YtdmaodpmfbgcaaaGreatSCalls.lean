/-
  What is told of two calls holds; ScriptRight answers true in the model, and leaves all memory as it was.
-/
import Derived.Test.YtdmaodpmfbgcaaaGreatSClone
import Derived.Test.YtdmaodpmfbgcaaaGreatWAwake30
set_option maxRecDepth 100000
namespace Go.Proofs.Tryz
open Go Go.V Go.SC

/-- What the first world holds is only read. -/
def ctxS (W : World) : Ctx := Ctx.still (fun b o => W.cell? ⟨b, o, none⟩) (fun _ => undef)
theorem orcOk0S (Γ0 : Ctx) : OrcOk (E orc0) Γ0 := fun _ _ _ h => by cases h

theorem orcS_ok {W : World} : OrcOk (E orcS) (ctxS W) := by
  obtain ⟨na, ma, hawake⟩ := okB_call awake30_run
  have hE : EnvOk (E orc0) (ctxS W) := envOk (fun _ h => h) (orcOk0S _)
  intro f args v hv
  have hv' : orcS f args = some v := hv
  unfold orcS at hv'
  simp only [nbeq, cond_eq_ite, decide_eq_true_eq] at hv'
  split at hv'
  · rename_i hf
    subst hf
    split at hv'
    · cases hv'
      refine ⟨(call_sound hE na).fn 49 [] Mem.nil _ hawake, fun Γ vs w hb ha hro => ?_⟩
      have hvs : vs.toList = [] := by simpa [VRs] using ha
      exact orc_bool hE hawake hb (by rw [hvs]; simp [VRs]) hro
    · cases hv'
  · split at hv'
    · rename_i hf
      subst hf
      split at hv'
      · cases hv'
        refine ⟨⟨f64, Tryz.func64, of_decide_eq_true (by kernel_rfl), by kernel_rfl⟩, fun Γ vs w hb ha hro => ?_⟩
        simp only [VRs, VR] at ha
        obtain ⟨u, l, hl, ⟨a, c, rfl, _, _⟩, rfl⟩ := ha
        have hvs : vs = #[.slice a 0 c] := by
          apply Array.toList_inj.1; rw [hl]
        subst hvs
        cases a with
        | none =>
          refine (clone_none c w).mono fun e w' he => ?_
          obtain ⟨rfl, rfl⟩ := he
          exact ⟨_, rfl, by simp only [VR]; exact ⟨none, rfl, fun h => by cases h⟩, rfl, rfl, rfl, Nat.le_refl _, fun _ _ => rfl⟩
        | some a =>
          refine (clone_some a c w).mono fun e w' he => ?_
          obtain ⟨b, rfl, hg⟩ := he
          exact ⟨_, rfl, by simp only [VR]; exact ⟨b, rfl, fun h => by cases h⟩, hg⟩
      · cases hv'
    · cases hv'

theorem agg_vrS {Γ : Ctx} {l : List AVal} {us : Array Value} (h : VRs Γ l us.toList) (ho : ∀ u ∈ us.toList, u.oneCell' = true) : VR Γ (.agg l) (.agg us) := by
  simp only [VR]
  exact ⟨us, rfl, h, ho⟩

/-- A law of one argument that answers true on the abstract machine. -/
theorem law_calls {W : World} {f : FuncId} {a : AVal} {v : Value} (h : vcall ES f [a] Mem.nil fun r _ => r = .bool true) (hv : VR (ctxS W) a v) :
    Calls prog f #[v] W fun e w' => e = .returned (.bool true) ∧ V.Grown W w' := by
  have hE : EnvOk (E orcS) (ctxS W) := envOk (fun _ h => h) orcS_ok
  obtain ⟨n, r, m, hc, rfl⟩ := h
  refine (still_calls (vs := #[v]) (w := W) hE hc ?_ fun _ _ _ h => h).mono fun e w' he => ?_
  · simp only [VRs]
    exact ⟨_, [], rfl, hv, rfl⟩
  · obtain ⟨Δ, u, rfl, hu, hg⟩ := he
    simp only [VR] at hu
    subst hu
    exact ⟨rfl, hg⟩
end Go.Proofs.Tryz
