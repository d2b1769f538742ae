/- Plain laws of chapter 4: which whole number a float is worth, as the document has it. -/
import Derived.Test.YtcjiipbppkdkaaaP04w
namespace Go.Proofs.Ytcjiipbppkdkaaa.Pure
open Go Go.Proofs.Ytcjiipbppkdkaaa.E Go.Proofs.Ytcjiipbppkdkaaa.Eng
set_option linter.unusedVariables false
set_option linter.unusedSimpArgs false
theorem wrap_u64 {n : Nat} (h : n < 18446744073709551616) : IntKind.wrap .u64 (n : Int) = (n : Int) := by
 simp only [IntKind.wrap, IntKind.bits, IntKind.signed, Bool.false_and]
 simp; omega
theorem fdiv_pow (n d : Nat) : Int.fdiv (n : Int) (2 ^ d) = ((n / 2 ^ d : Nat) : Int) := by
 rw [Int.fdiv_eq_ediv_of_nonneg _ (Int.le_of_lt (Int.pow_pos (by decide)))]
 rw [Int.natCast_ediv, Int.natCast_pow]; rfl
theorem and_nat (x m : Nat) (hx : x < 18446744073709551616) (hm : m < 18446744073709551616) : (BitVec.ofInt (IntKind.bits .u64) (x : Int) &&& BitVec.ofInt (IntKind.bits .u64) (m : Int)).toNat = x &&& m := by
 rw [BitVec.toNat_and, BitVec.ofInt_natCast, BitVec.ofInt_natCast, BitVec.toNat_ofNat, BitVec.toNat_ofNat]
 show x % 18446744073709551616 &&& m % 18446744073709551616 = _
 rw [Nat.mod_eq_of_lt hx, Nat.mod_eq_of_lt hm]
theorem or_nat (x m : Nat) (hx : x < 18446744073709551616) (hm : m < 18446744073709551616) : (BitVec.ofInt (IntKind.bits .u64) (x : Int) ||| BitVec.ofInt (IntKind.bits .u64) (m : Int)).toNat = x ||| m := by
 rw [BitVec.toNat_or, BitVec.ofInt_natCast, BitVec.ofInt_natCast, BitVec.toNat_ofNat, BitVec.toNat_ofNat]
 show x % 18446744073709551616 ||| m % 18446744073709551616 = _
 rw [Nat.mod_eq_of_lt hx, Nat.mod_eq_of_lt hm]
def eB (n : Nat) : Nat := n / 4503599627370496 % 2048
def mB (n : Nat) : Nat := 4503599627370496 + n % 4503599627370496
theorem top1 (n : Nat) (hn : n < 18446744073709551616) : ((Int.fdiv (n : Int) (2 ^ (min (63 : Int).toNat (IntKind.bits .u64))) : Int) == 1) = negB n := by
 rw [show min (63 : Int).toNat (IntKind.bits .u64) = 63 from rfl, fdiv_pow, show (2 ^ 63 : Nat) = 9223372036854775808 by decide]
 unfold negB
 have h : n / 9223372036854775808 = 0 ∨ n / 9223372036854775808 = 1 := by omega
 rcases h with h | h <;> rw [h] <;> rfl
end Go.Proofs.Ytcjiipbppkdkaaa.Pure
