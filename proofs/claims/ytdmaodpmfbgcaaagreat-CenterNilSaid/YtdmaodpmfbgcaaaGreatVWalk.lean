/-
  Walking code on the abstract machine with symbols in its slots: what 'simp' needs.
-/
import Derived.Test.YtdmaodpmfbgcaaaGreatVMono
import Derived.IntWalk
namespace Go.V
def sget (s : Slots) (d : Nat) : AVal := (Slots.get s d).getD .any
theorem sget_put (s : Slots) (d x : Nat) (v : AVal) (h : d < 256) : sget (Slots.put s d v) x = if x = d then v else sget s x := by
  unfold sget; rw [Slots.get_put _ _ _ _ h]; split <;> rfl
theorem St.slot_mk (f nt : Nat) (s : Slots) (m : Mem) (d : Nat) : St.slot ⟨f, nt, s, m⟩ d = sget s d := rfl
theorem St.put_mk (f nt : Nat) (s : Slots) (m : Mem) (d : Nat) (v : AVal) (h : d < nt) : St.put ⟨f, nt, s, m⟩ (some d) v = some ⟨f, nt, Slots.put s d v, m⟩ := by
  simp [St.put, nblt, h]
theorem natOf_cast (k : IntKind) (n : Nat) : natOf (.int k (n : Int)) = some n := rfl
theorem wrap_succ {n : Nat} (h : n < 1000000000) : IntKind.i64.wrap ((n : Int) + 1) = ((n + 1 : Nat) : Int) := by
  rw [IntWalk.i64_in _ (by omega)]; omega
theorem get_add0 (B : Block) : (Mem.add Mem.nil B).get 0 = some B := by rw [get_add _ _ (by decide)]; rfl
end Go.V
