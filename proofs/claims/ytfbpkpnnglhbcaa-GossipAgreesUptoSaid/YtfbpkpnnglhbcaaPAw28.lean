/- Plain laws of chapter 28: the example, evaluated by the kernel. -/
import Derived.Test.YtfbpkpnnglhbcaaPLe
import Derived.KernelRfl
namespace Go.Proofs.Ytfbpkpnnglhbcaa.Pure
open Go Go.Proofs.Ytfbpkpnnglhbcaa.E Go.Proofs.Ytfbpkpnnglhbcaa.Eng
set_option linter.unusedVariables false
set_option linter.unusedSimpArgs false
set_option maxRecDepth 1000000 in
theorem awake28_at : chartularylaw28_awake.f 400 = some ((true, ()), ()) := by kernel_rfl
theorem awake28_ok : TP (fun k => chartularylaw28_awake.f k) (fun v => v.1 = (true, ())) := (Le.runs (fun k => chartularylaw28_awake.le k) awake28_at).tp rfl
theorem awake28_end {g : Nat → Option ((Bool × Unit) × Unit)} (h : ∀ k, g k = (chartularylaw28_awake.f k).bind fun r => some ((r.1.1, ()), ())) : TP g (fun v => v.1.1 = true) := by
 have : g = fun k => (chartularylaw28_awake.f k).bind fun r => some ((r.1.1, ()), ()) := funext h
 rw [this]
 exact TP.bindM awake28_ok fun _ => TP.some rfl
end Go.Proofs.Ytfbpkpnnglhbcaa.Pure
