/-
  A call that the machine made for the kernel carried out may be told in another run.
-/
import Derived.Test.YtdmaodpmfbgcaaaGreatWV4
import Derived.Test.YtdmaodpmfbgcaaaGreatWEnv
namespace Go.Proofs.Tryz
open Go Go.V

noncomputable def okB (r : V.CR) : Bool := @V.CR.rec (fun _ => Bool) false (fun v _ => @Option.rec Bool (fun _ => Bool) false (fun b => b) (V.asBool v)) r

theorem okB_call {E : Env} {n : Nat} {f : FuncId} {args : List AVal} (h : okB (fcall E n f args Mem.nil) = true) : ∃ k m, call E k f args Mem.nil = some (.bool true, m) := by
  cases hr : fcall E n f args Mem.nil with
  | stuck => rw [hr] at h; cases h
  | ok v m =>
    rw [hr] at h
    have h' : @Option.rec Bool (fun _ => Bool) false (fun b => b) (V.asBool v) = true := h
    cases hb : V.asBool v with
    | none => rw [hb] at h'; cases h'
    | some b =>
      rw [hb] at h'
      have hb' : b = true := h'
      subst hb'
      obtain ⟨k, hk⟩ := fcall_ok n f args _ v m hr
      exact ⟨k, m, by rw [hk, asBool_some hb]⟩

/-- Nothing is told. -/
def orc0 : FuncId → List AVal → Option AVal := fun _ _ => none
end Go.Proofs.Tryz
