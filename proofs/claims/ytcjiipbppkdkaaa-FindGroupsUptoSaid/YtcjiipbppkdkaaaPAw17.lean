/- Plain laws of chapter 17: the example, evaluated by the kernel. -/
import Derived.Test.YtcjiipbppkdkaaaPLe
import Derived.KernelRfl
namespace Go.Proofs.Ytcjiipbppkdkaaa.Pure
open Go Go.Proofs.Ytcjiipbppkdkaaa.E Go.Proofs.Ytcjiipbppkdkaaa.Eng
set_option linter.unusedVariables false
set_option linter.unusedSimpArgs false
set_option maxRecDepth 1000000 in
theorem awake_at : chartularylaw17_awake.f 100 = some ((true, ()), ()) := by kernel_rfl
theorem awake_ok : TP (fun k => chartularylaw17_awake.f k) (fun v => v.1 = (true, ())) := (Le.runs (fun k => chartularylaw17_awake.le k) awake_at).tp rfl
theorem awake_end {g : Nat → Option ((Bool × Unit) × Unit)} (h : ∀ k, g k = (chartularylaw17_awake.f k).bind fun r => some ((r.1.1, ()), ())) : TP g (fun v => v.1.1 = true) := by
 have : g = fun k => (chartularylaw17_awake.f k).bind fun r => some ((r.1.1, ()), ()) := funext h
 rw [this]
 exact TP.bindM awake_ok fun _ => TP.some rfl
end Go.Proofs.Ytcjiipbppkdkaaa.Pure
