/- The example of chapter 21, evaluated by the kernel. -/
import Derived.Test.YtioagphpiflplaaEDefs
import Derived.KernelRfl
namespace Go.Proofs.Ytioagphpiflplaa.Pure
open Go Go.Proofs.Ytioagphpiflplaa.E Go.Proofs.Ytioagphpiflplaa.Eng
set_option maxRecDepth 1000000 in
theorem awake_at : chartularylaw21_awake.f 1000 = some ((true, ()), ()) := by kernel_rfl
end Go.Proofs.Ytioagphpiflplaa.Pure
