/-
  A chain of code cut in two.
-/
import Derived.Test.YtdmaodpmfbgcaaaGreatWOrc
namespace Go.V

def plug : List Code → Code → Code
  | [], c => c
  | a :: l, c => .seq a (plug l c)

/-- The first n of a chain, and what is behind them. -/
def heads : Nat → Code → List Code
  | n + 1, .seq a b => a :: heads n b
  | _, _ => []
def behind : Nat → Code → Code
  | n + 1, .seq _ b => behind n b
  | _, c => c

theorem plug_heads : ∀ (n : Nat) (c : Code), plug (heads n c) (behind n c) = c
  | 0, c => by simp [heads, behind, plug]
  | n + 1, c => by
    cases c with
    | seq a b => simp only [heads, behind, plug, plug_heads n b]
    | _ => simp [heads, behind, plug]

theorem vwp_plug {E : Env} {c : Code} {Q : Ex → St → Prop} {st1 : St} : ∀ (l : List Code) (st : St), vwp E (plug l .skip) (fun ex s => ex = .normal ∧ s = st1) st → vwp E c Q st1 → vwp E (plug l c) Q st
  | [], st, h, hc => by
    obtain ⟨n, ex, s, h1, rfl, rfl⟩ := h
    cases n with
    | zero => rw [plug, exec_zero] at h1; cases h1
    | succ n =>
      rw [plug, exec_succ] at h1
      simp only [execF, Option.some.injEq, Prod.mk.injEq, true_and] at h1
      subst h1
      exact hc
  | a :: l, st, h, hc => by
    obtain ⟨n, ex, s, h1, rfl, rfl⟩ := h
    cases n with
    | zero => rw [exec_zero] at h1; cases h1
    | succ n =>
      rw [plug, exec_succ] at h1
      simp only [execF] at h1
      split at h1
      · rename_i s2 h2
        exact vwp_seq ⟨n, .normal, s2, h2, vwp_plug l s2 ⟨n, .normal, _, h1, rfl, rfl⟩ hc⟩
      · rename_i hne
        exact absurd h1 (hne _)
end Go.V
