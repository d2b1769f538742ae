/- Plain laws of chapter 8: places that rise. -/
import Derived.Test.YtioagphpiflplaaP08s
namespace Go.Proofs.Ytioagphpiflplaa.Pure
open Go Go.Proofs.Ytioagphpiflplaa.E Go.Proofs.Ytioagphpiflplaa.Eng
set_option linter.unusedVariables false
set_option linter.unusedSimpArgs false

/-- Strictly rising. -/
def Rising (l : List Int) : Prop := l.Pairwise (· < ·)
theorem sumsB32 (l : List ByteArray) : (l.all fun x => x.size == 32) = true ↔ S32 l := by
  unfold S32; rw [List.all_eq_true]; simp
end Go.Proofs.Ytioagphpiflplaa.Pure
