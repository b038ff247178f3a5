/-
  What the machine answers for SessionNil, 'awake' and 'Short' being told.
-/
import Derived.Test.YtdmaodpmfbgcaaaGreatOrc
set_option maxRecDepth 1000000
namespace Go.Proofs.Tryz
open Go Go.V
/-- The tags of an argument's cells. -/
def tags : Nat → Nat → List AVal
  | _, 0 => []
  | k, n + 1 => .opq k :: tags (k + 1) n
def tagsAt : Nat → Nat → List AVal → Bool
  | _, 0, [] => true
  | k, n + 1, .opq j :: l => Nat.beq j k && tagsAt (k + 1) n l
  | _, _, _ => false
/-- 'awake' answers true; 'Short' of this one change answers b. -/
def orcS (b : Bool) (f : FuncId) (args : List AVal) : Option AVal :=
  bif Nat.beq f 17 then (match args with
    | [] => some (.bool true)
    | _ => none)
  else bif Nat.beq f 18 then (match args with
    | [.agg cs] => bif tagsAt 0 4 cs then some (.bool b) else none
    | _ => none)
  else none
theorem sess_t : okB (fcall (E (orcS true)) 1000 4 [.agg (tags 0 4)] Mem.nil) = true := by kernel_rfl
theorem sess_f : okB (fcall (E (orcS false)) 1000 4 [.agg (tags 0 4)] Mem.nil) = true := by kernel_rfl
end Go.Proofs.Tryz
