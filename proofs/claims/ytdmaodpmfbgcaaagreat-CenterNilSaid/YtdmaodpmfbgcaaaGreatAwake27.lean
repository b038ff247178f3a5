/-
  The center layer's 'awake' answers true.
-/
import Derived.Test.YtdmaodpmfbgcaaaGreatOrc
set_option maxRecDepth 1000000
namespace Go.Proofs.Tryz
open Go Go.V
theorem awake27_run : okB (fcall (E orc0) 1000 9 [] Mem.nil) = true := by kernel_rfl
end Go.Proofs.Tryz
