/- Plain laws: lists of sums. -/
import Derived.Test.YtoceopdoedmgoaaPMerkR
namespace Go.Proofs.Ytoceopdoedmgoaa.Pure
open Go Go.Proofs.Ytoceopdoedmgoaa.E Go.Proofs.Ytoceopdoedmgoaa.Eng
set_option linter.unusedVariables false
set_option linter.unusedSimpArgs false

section
variable {T : Tab}
def sumsB (l : List ByteArray) : Bool := l.all fun x => x.size == 32
theorem sumsB_iff (l : List ByteArray) : sumsB l = true ↔ S32 l := by
  unfold sumsB S32; rw [List.all_eq_true]; simp
end
end Go.Proofs.Ytoceopdoedmgoaa.Pure
