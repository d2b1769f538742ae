/- Plain laws: what one evaluation comes to is what all later ones come to. -/
import Derived.Test.YtcjiipbppkdkaaaPComb
import Derived.Test.YtcjiipbppkdkaaaELe
namespace Go.Proofs.Ytcjiipbppkdkaaa.Pure
open Go Go.Proofs.Ytcjiipbppkdkaaa.E Go.Proofs.Ytcjiipbppkdkaaa.Eng
set_option linter.unusedVariables false
set_option linter.unusedSimpArgs false
theorem Le.runs {α : Type} {f : Nat → Option α} (h : ∀ k, Le (f k) (f (k + 1))) {k0 : Nat} {v : α} (h0 : f k0 = some v) : Runs f v := by
 refine ⟨k0, fun k hk => ?_⟩
 obtain ⟨d, rfl⟩ : ∃ d, k = k0 + d := ⟨k - k0, by omega⟩
 clear hk
 induction d with
 | zero => exact h0
 | succ d ih => exact (h (k0 + d)).le v ih
end Go.Proofs.Ytcjiipbppkdkaaa.Pure
