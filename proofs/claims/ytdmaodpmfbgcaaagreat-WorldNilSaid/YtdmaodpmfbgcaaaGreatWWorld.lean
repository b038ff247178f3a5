/-
  WorldNil answers true, whatever the step and the number, and leaves all memory as it was: said of the model's own calls.
-/
import Derived.Test.YtdmaodpmfbgcaaaGreatWAwake28
import Derived.Test.YtdmaodpmfbgcaaaGreatWV4
set_option maxRecDepth 1000000
namespace Go.Proofs.Tryz
open Go Go.V

/-- The tags of an argument's cells. -/
def ctags : Nat → Nat → List AVal
  | _, 0 => []
  | k, n + 1 => .opq k :: ctags (k + 1) n

/-- 'awake' answers true. -/
def orcW (f : FuncId) (args : List AVal) : Option AVal :=
  bif Nat.beq f 45 then (match args with
    | [] => some (.bool true)
    | _ => none)
  else none

theorem world_run : okB (fcall (E orcW) 1000 6 [.agg (ctags 0 9), .any] Mem.nil) = true := by kernel_rfl

theorem tags_vrs {Γ : Ctx} : ∀ (n k : Nat) (us : List Value), us.length = n → (∀ i, i < n → Γ.inp (k + i) = us.getD i undef) → (∀ u ∈ us, u.oneCell' = true) → VRs Γ (ctags k n) us
  | 0, k, [], _, _, _ => by simp only [ctags, VRs]
  | n + 1, k, u :: us, hl, hi, ho => by
    simp only [ctags, VRs, VR]
    refine ⟨u, us, rfl, ⟨by have := hi 0 (by omega); rw [Nat.add_zero] at this; rw [this]; rfl, ho u (List.mem_cons_self ..)⟩, tags_vrs n (k + 1) us (by simpa using hl) (fun i hin => ?_) fun u hu => ho u (List.mem_cons_of_mem _ hu)⟩
    rw [show k + 1 + i = k + (i + 1) by omega, hi (i + 1) (by omega)]; simp

theorem agg_vr {Γ : Ctx} {l : List AVal} {us : Array Value} (h : VRs Γ l us.toList) (ho : ∀ u ∈ us.toList, u.oneCell' = true) : VR Γ (.agg l) (.agg us) := by
  simp only [VR]
  exact ⟨us, rfl, h, ho⟩

/-- What the first world holds is only read; the arguments' cells. -/
def ctxOf (W : World) (cs : List Value) : Ctx := Ctx.still (fun b o => W.cell? ⟨b, o, none⟩) (fun k => cs.getD k undef)

theorem orcOk0 (Γ0 : Ctx) : OrcOk (E orc0) Γ0 := fun _ _ _ h => by cases h

theorem orcW_ok {W : World} {cs : List Value} : OrcOk (E orcW) (ctxOf W cs) := by
  obtain ⟨na, ma, hawake⟩ := awake28_call
  have hE : EnvOk (E orc0) (ctxOf W cs) := envOk (fun _ h => h) (orcOk0 _)
  intro f args v hv
  have hv' : orcW f args = some v := hv
  unfold orcW at hv'
  rw [nbeq, cond_eq_ite] at hv'
  split at hv'
  · rename_i hf
    simp only [decide_eq_true_eq] at hf
    subst hf
    split at hv'
    · cases hv'
      refine ⟨(call_sound hE na).fn 45 [] Mem.nil _ hawake, fun Γ vs w hb ha hro => ?_⟩
      have hvs : vs.toList = [] := by simpa [VRs] using ha
      exact orc_bool hE hawake hb (by rw [hvs]; simp [VRs]) hro
    · cases hv'
  · cases hv'

theorem world_calls {W : World} {us : Array Value} {v : Value} (hl : us.toList.length = 9) (ho : ∀ c ∈ us.toList, c.oneCell' = true) :
    Calls prog 6 #[.agg us, v] W fun e w' => e = .returned (.bool true) ∧ V.Grown W w' := by
  have hE : EnvOk (E orcW) (ctxOf W us.toList) := envOk (fun _ h => h) orcW_ok
  obtain ⟨k, m, hc⟩ := okB_call world_run
  refine (still_calls (vs := #[.agg us, v]) (w := W) hE hc ?_ fun _ _ _ h => h).mono fun e w' he => ?_
  · simp only [VRs]
    exact ⟨_, _, rfl, agg_vr (tags_vrs 9 0 us.toList hl (fun i _ => by rw [Nat.zero_add]; rfl) ho) ho, _, [], rfl, by simp only [VR], rfl⟩
  · obtain ⟨Δ, u, rfl, hu, hg⟩ := he
    simp only [VR] at hu
    subst hu
    exact ⟨rfl, hg⟩
end Go.Proofs.Tryz
