/- Plain laws of chapter 4: the example, evaluated by the kernel. -/
import Derived.Test.YtnedfkfelagmpaaPLe
import Derived.KernelRfl
namespace Go.Proofs.Ytnedfkfelagmpaa.Pure
open Go Go.Proofs.Ytnedfkfelagmpaa.E Go.Proofs.Ytnedfkfelagmpaa.Eng
set_option linter.unusedVariables false
set_option linter.unusedSimpArgs false

set_option maxRecDepth 1000000 in
theorem awake_at : chartularylaw04_awake.f 60 = some ((true, ()), ()) := by kernel_rfl
theorem awake_ok : Runs (fun k => chartularylaw04_awake.f k) ((true, ()), ()) := Le.runs (fun k => chartularylaw04_awake.le k) awake_at
theorem awake_end {g : Nat → Option ((Bool × Unit) × Unit)} (h : ∀ k, g k = (chartularylaw04_awake.f k).bind fun r => some ((r.1.1, ()), ())) : TP g (fun v => v.1.1 = true) := by
  have : g = fun k => (chartularylaw04_awake.f k).bind fun r => some ((r.1.1, ()), ()) := funext h
  rw [this]
  exact TP.bindR awake_ok (TP.some rfl)
end Go.Proofs.Ytnedfkfelagmpaa.Pure
