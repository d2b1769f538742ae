/- Plain laws of chapter 4: which whole number a float is worth, as the document has it. -/
import Derived.Test.YtcjiipbppkdkaaaP04w
namespace Go.Proofs.Ytcjiipbppkdkaaa.Pure
open Go Go.Proofs.Ytcjiipbppkdkaaa.E Go.Proofs.Ytcjiipbppkdkaaa.Eng
set_option linter.unusedVariables false
set_option linter.unusedSimpArgs false

theorem wrap_u64 {n : Nat} (h : n < 18446744073709551616) : IntKind.wrap .u64 (n : Int) = (n : Int) := by
  simp only [IntKind.wrap, IntKind.bits, IntKind.signed, Bool.false_and]
  simp; omega
theorem fdiv_pow (n d : Nat) : Int.fdiv (n : Int) (2 ^ d) = ((n / 2 ^ d : Nat) : Int) := by
  rw [Int.fdiv_eq_ediv_of_nonneg _ (Int.le_of_lt (Int.pow_pos (by decide)))]
  rw [Int.natCast_ediv, Int.natCast_pow]; rfl
theorem and_nat (x m : Nat) (hx : x < 18446744073709551616) (hm : m < 18446744073709551616) : (BitVec.ofInt (IntKind.bits .u64) (x : Int) &&& BitVec.ofInt (IntKind.bits .u64) (m : Int)).toNat = x &&& m := by
  rw [BitVec.toNat_and, BitVec.ofInt_natCast, BitVec.ofInt_natCast, BitVec.toNat_ofNat, BitVec.toNat_ofNat]
  show x % 18446744073709551616 &&& m % 18446744073709551616 = _
  rw [Nat.mod_eq_of_lt hx, Nat.mod_eq_of_lt hm]
/-- A float's exponent, and its digits. -/
def eB (n : Nat) : Nat := n / 4503599627370496 % 2048
def mB (n : Nat) : Nat := 4503599627370496 + n % 4503599627370496
theorem shl1 (n : Nat) (hn : n < 18446744073709551616) : ((IntKind.wrap .u64 ((n : Int) * 2 ^ (min (1 : Int).toNat (IntKind.bits .u64))) : Int) == 0) = decide (rung n = 0) := by
  have : IntKind.wrap .u64 ((n : Int) * 2 ^ (min (1 : Int).toNat (IntKind.bits .u64))) = ((2 * rung n : Nat) : Int) := by
    rw [show (2 : Int) ^ (min (1 : Int).toNat (IntKind.bits .u64)) = 2 from rfl]
    simp only [IntKind.wrap, IntKind.bits, IntKind.signed, Bool.false_and, rung]
    simp; omega
  rw [this]
  by_cases h : rung n = 0
  · rw [decide_eq_true h, h]; rfl
  · rw [decide_eq_false h, beq_eq_false_iff_ne]; omega
/-- .. and by these. -/
theorem rung_em (n : Nat) : rung n / 4503599627370496 = eB n ∧ rung n % 4503599627370496 = n % 4503599627370496 := by unfold rung eB; omega
theorem V_em {n : Nat} (h : 1 ≤ eB n) : Vr (rung n) = mB n * 2 ^ (eB n - 1) := by
  obtain ⟨h1, h2⟩ := rung_em n
  unfold Vr; rw [if_neg (by omega), h1, h2]; rfl
theorem mB_lt (n : Nat) : 4503599627370496 ≤ mB n ∧ mB n < 9007199254740992 := by unfold mB; omega
end Go.Proofs.Ytcjiipbppkdkaaa.Pure
