/-
  A clone of no bytes, in the model itself.
-/
import Derived.Test.YtdmaodpmfbgcaaaGreatSRead
import Derived.WalkKit
import Derived.OwnWalk
set_option maxRecDepth 100000
namespace Go.Proofs.Tryz
open Go

theorem cmp_none (n c : Nat) (w : World) : (binOp .eql 22 (.slice none n c) (.slice none 0 0)).run prog w = .ok (.bool true) w := by
  have h := V.binOp_eql (E := ES) (w := w) 22 (.slice none n c) (.slice none 0 0) ⟨fun _ _ h => (by cases h), fun _ h => (by cases h)⟩ ⟨fun _ _ h => (by cases h), fun _ _ _ h => (by cases h)⟩
  have h2 : (Op.equal 22 (.slice none n c) (.slice none 0 0)).run prog w = .ok true w := V.eqIn_slice_l 9999 none n c 0 0 underlying22
  exact h.trans (by rw [show (Op.equal 22 (.slice none n c) (.slice none 0 0)).run ES.P w = .ok true w from h2]; rfl)
theorem cmp_some (a : Addr) (n c : Nat) (w : World) : (binOp .eql 22 (.slice (some a) n c) (.slice none 0 0)).run prog w = .ok (.bool false) w := by
  have h := V.binOp_eql (E := ES) (w := w) 22 (.slice (some a) n c) (.slice none 0 0) ⟨fun _ _ h => (by cases h), fun _ h => (by cases h)⟩ ⟨fun _ _ h => (by cases h), fun _ _ _ h => (by cases h)⟩
  have h2 : (Op.equal 22 (.slice (some a) n c) (.slice none 0 0)).run prog w = .ok false w := V.eqIn_slice_r 9999 a n c 0 0 underlying22
  exact h.trans (by rw [show (Op.equal 22 (.slice (some a) n c) (.slice none 0 0)).run ES.P w = .ok false w from h2]; rfl)

theorem clone_none (c : Nat) (w : World) : Calls prog 64 #[.slice none 0 c] w fun e w' => e = .returned (.slice none 0 0) ∧ w' = w := by
  have h := cmp_none 0 c w
  go_enter Tryz.func64, Tryz.ntmps64
  go_wp2
  go_ret
  exact ⟨rfl, rfl⟩
theorem clone_some (a : Addr) (c : Nat) (w : World) : Calls prog 64 #[.slice (some a) 0 c] w fun e w' => ∃ b, e = .returned (.slice b 0 0) ∧ V.Grown w w' := by
  have h := cmp_some a 0 c w
  go_enter Tryz.func64, Tryz.ntmps64
  go_wp2
  go_ret
  refine ⟨_, rfl, rfl, rfl, rfl, ?_, fun k hk => ?_⟩
  · show w.heap.size ≤ (w.heap.push _).size
    rw [Array.size_push]; exact Nat.le_succ _
  · show (w.heap.push _)[k]? = w.heap[k]?
    rw [Array.getElem?_push, if_neg (Nat.ne_of_lt hk)]
end Go.Proofs.Tryz
