/-
  The codec law's 'awake' answers true.
-/
import Derived.Test.YtdmaodpmfbgcaaaGreatWOrc
import Derived.KernelRfl
set_option maxRecDepth 1000000
namespace Go.Proofs.Tryz
open Go Go.V
theorem awake30_run : okB (fcall (E orc0) 1000 49 [] Mem.nil) = true := by kernel_rfl
end Go.Proofs.Tryz
