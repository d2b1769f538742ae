/- Plain laws: the library's stable sorting, as it goes: places by their papers. -/
import Derived.Test.YtcjiipbppkdkaaaP17c
import Derived.Test.YtcjiipbppkdkaaaPSort
namespace Go.Proofs.Ytcjiipbppkdkaaa.Pure
open Go Go.Proofs.Ytcjiipbppkdkaaa.E Go.Proofs.Ytcjiipbppkdkaaa.Eng
set_option linter.unusedVariables false
set_option linter.unusedSimpArgs false
variable {cP : List Pap} {cT : List Trm} {cB : ByteArray} {cD : Bool} {cM : Int}
theorem half_ok (i j : Nat) (h : i + j ≤ 1000000) : IntKind.wrap .i64 (Int.fdiv (IntKind.wrap .u64 (IntKind.wrap .i64 ((i : Int) + (j : Int)))) (2 ^ (min (1 : Int).toNat (IntKind.bits .u64)))) = (((i + j) / 2 : Nat) : Int) := by
 rw [wi (i := (i : Int) + (j : Int)) (by omega) (by omega)]
 have e1 : IntKind.wrap .u64 ((i : Int) + (j : Int)) = (i : Int) + (j : Int) := by
  simp only [IntKind.wrap, IntKind.bits, IntKind.signed, Bool.false_and]
  simp; omega
 rw [e1]
 have e2 : Int.fdiv ((i : Int) + (j : Int)) (2 ^ (min (1 : Int).toNat (IntKind.bits .u64))) = (((i + j) / 2 : Nat) : Int) := by
  show Int.fdiv ((i : Int) + (j : Int)) 2 = _
  rw [Int.fdiv_eq_ediv_of_nonneg _ (by decide)]; omega
 rw [e2, wi (by omega) (by omega)]
/-! ## One put in -/
end Go.Proofs.Ytcjiipbppkdkaaa.Pure
