/-
  The transport law's 'awake', up to its last part.
-/
import Derived.Test.YtdmaodpmfbgcaaaGreatWPlug
import Derived.Test.YtdmaodpmfbgcaaaGreatWMem
import Derived.KernelRfl
set_option maxRecDepth 1000000
namespace Go.Proofs.Tryz
open Go Go.V
noncomputable def body45 : Code := (f45.body).getD .skip
theorem run28a : (cc (E orc0) 45 57 (plug (heads 5 body45) .skip)).run (fcall (E orc0) 999) kdone Slots.nil Mem.nil = .done .normal slots12 mem12 := by kernel_rfl
end Go.Proofs.Tryz
