/- Plain laws: roots, as the program makes them. -/
import Derived.Test.YtfbpkpnnglhbcaaPMerkV
namespace Go.Proofs.Ytfbpkpnnglhbcaa.Pure
open Go Go.Proofs.Ytfbpkpnnglhbcaa.E Go.Proofs.Ytfbpkpnnglhbcaa.Eng
set_option linter.unusedVariables false
set_option linter.unusedSimpArgs false

section
variable {α β : Type}
end
theorem tlI {l : List ByteArray} (h0 : l.length ≠ 0) (h : l.length ≤ 1000000000) : (l.take (IntKind.wrap .i64 ((l.length : Int) - 1)).toNat).drop (0 : Int).toNat = l.dropLast := by
  rw [wrap_i64 (by omega) (by omega), List.dropLast_eq_take, show ((l.length : Int) - 1).toNat = l.length - 1 by omega]; rfl
theorem lastI {l : List ByteArray} (h0 : l.length ≠ 0) (h : l.length ≤ 1000000000) : rdo l (IntKind.wrap .i64 ((l.length : Int) - 1)) = some (lastV l) := by
  rw [wrap_i64 (by omega) (by omega), show (l.length : Int) - 1 = ((l.length - 1 : Nat) : Int) by omega, rdo_at (by omega)]
  unfold lastV
  rw [List.getLastD_eq_getLast?, List.getLast?_eq_getElem?, List.getElem?_eq_getElem (by omega)]; rfl
section
variable {T : Tab}
end
end Go.Proofs.Ytfbpkpnnglhbcaa.Pure
