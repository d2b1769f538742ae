/- Plain laws of chapter 26: the document's text between quotes; numbers as digits. -/
import Derived.Test.YtpidgdelfaidoaaP26a
namespace Go.Proofs.Ytpidgdelfaidoaa.Pure
open Go Go.Proofs.Ytpidgdelfaidoaa.E Go.Proofs.Ytpidgdelfaidoaa.Eng
set_option linter.unusedVariables false
set_option linter.unusedSimpArgs false
theorem tdiv_nn (a b : Nat) : Int.tdiv (a : Int) (b : Int) = ((a / b : Nat) : Int) := by rw [Int.tdiv_eq_ediv_of_nonneg (by omega)]; rfl
theorem tmod_nn (a b : Nat) : Int.tmod (a : Int) (b : Int) = ((a % b : Nat) : Int) := by rw [Int.tmod_eq_emod_of_nonneg (by omega)]; rfl
theorem wrap_i64n {n : Nat} (h : n ≤ 9223372036854775807) : IntKind.wrap .i64 (n : Int) = (n : Int) := wrap_i64 (by omega) (by omega)
theorem wrap_u64n {n : Nat} (h : n ≤ 18446744073709551615) : IntKind.wrap .u64 (n : Int) = (n : Int) := by
 simp only [IntKind.wrap, IntKind.bits, IntKind.signed, Bool.false_and]
 simp; omega
theorem one_cut {s : Tx} {i : Nat} (h : i < s.length) : (tx s).extract i (i + 1) = tx [s[i]] := by
 rw [tx_extract _ _ _ (by omega) (by omega), List.take_succ_eq_append_getElem h, List.drop_append, List.drop_of_length_le (by rw [List.length_take]; omega)]
 rw [show (s.take i).length = i by rw [List.length_take]; omega]
 simp
def digL (n : Nat) : Tx := if h : n < 10 then [UInt8.ofNat (48 + n)] else digL (n / 10) ++ [UInt8.ofNat (48 + n % 10)]
termination_by n
decreasing_by omega
theorem digL_small {n : Nat} (h : n < 10) : digL n = [UInt8.ofNat (48 + n)] := by rw [digL, dif_pos h]
theorem digL_big {n : Nat} (h : ¬ n < 10) : digL n = digL (n / 10) ++ [UInt8.ofNat (48 + n % 10)] := by rw [digL, dif_neg h]
theorem digL_pos (n : Nat) : digL n ≠ [] := by
 by_cases h : n < 10
 ·rw [digL_small h]; simp
 ·rw [digL_big h]; simp
theorem digL_len : ∀ (m n : Nat), n < 10 ^ m → 0 < m → (digL n).length ≤ m := by
 intro m
 induction m with
 | zero => intro n _ h; omega
 | succ m ih =>
  intro n hn _
  by_cases h : n < 10
  ·rw [digL_small h]; simp
  ·rw [digL_big h, List.length_append]
   have h1 : n / 10 < 10 ^ m := by rw [Nat.pow_succ] at hn; omega
   have hm : 0 < m := by
    rcases Nat.eq_zero_or_pos m with h0 | h0
    ·subst h0; simp at h1; omega
    ·exact h0
   have := ih (n / 10) h1 hm
   simp; omega
theorem d48 (n : Nat) (h : n < 10) : IntKind.wrap .u8 (IntKind.wrap .u64 (48 + (n : Int))) = ((UInt8.ofNat (48 + n)).toNat : Int) := by
 have e : (48 + (n : Int)) = ((48 + n : Nat) : Int) := by omega
 rw [e, wrap_u64n (by omega), wrap_u8 (by omega) (by omega)]
 have : (UInt8.ofNat (48 + n)).toNat = 48 + n := by simp [UInt8.toNat_ofNat']; omega
 rw [this]
def wholeL (z : Int) : Tx := if z < 0 then 45 :: digL z.natAbs else digL z.natAbs
theorem wrap_u64z {z : Int} (h1 : -9223372036854775808 ≤ z) (h2 : z ≤ 9223372036854775807) : IntKind.wrap .u64 z = if z < 0 then z + 18446744073709551616 else z := by
 simp only [IntKind.wrap, IntKind.bits, IntKind.signed, Bool.false_and]
 by_cases h : z < 0
 ·rw [if_pos h]; simp; omega
 ·rw [if_neg h]; simp; omega
end Go.Proofs.Ytpidgdelfaidoaa.Pure
