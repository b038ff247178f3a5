/-
  The transport law's 'awake', its last part.
-/
import Derived.Test.YtdmaodpmfbgcaaaGreatWPlug
import Derived.Test.YtdmaodpmfbgcaaaGreatWMem
import Derived.KernelRfl
set_option maxRecDepth 1000000
namespace Go.Proofs.Tryz
open Go Go.V
noncomputable def okX (d : Nat) (r : XR) : Bool := @XR.rec (fun _ => Bool) false (fun ex s _ => @Ex.rec (fun _ => Bool) true (fun _ => false) true ex && @Option.rec Bool (fun _ => Bool) false (fun b => b) (V.asBool ((opn (.tmp d)).g s))) r
theorem run28b : okX 0 ((cc (E orc0) 45 57 (behind 5 ((f45.body).getD .skip))).run (fcall (E orc0) 999) kdone slots12 mem12) = true := by kernel_rfl
end Go.Proofs.Tryz
