/- Plain laws of chapter 4: which whole number a float is worth, as the document has it. -/
import Derived.Test.YtnedfkfelagmpaaP04w
namespace Go.Proofs.Ytnedfkfelagmpaa.Pure
open Go Go.Proofs.Ytnedfkfelagmpaa.E Go.Proofs.Ytnedfkfelagmpaa.Eng
set_option linter.unusedVariables false
set_option linter.unusedSimpArgs false

theorem wrap_u64 {n : Nat} (h : n < 18446744073709551616) : IntKind.wrap .u64 (n : Int) = (n : Int) := by
  simp only [IntKind.wrap, IntKind.bits, IntKind.signed, Bool.false_and]
  simp; omega
theorem fdiv_pow (n d : Nat) : Int.fdiv (n : Int) (2 ^ d) = ((n / 2 ^ d : Nat) : Int) := by
  rw [Int.fdiv_eq_ediv_of_nonneg _ (Int.le_of_lt (Int.pow_pos (by decide)))]
  rw [Int.natCast_ediv, Int.natCast_pow]; rfl
theorem and_nat (x m : Nat) (hx : x < 18446744073709551616) (hm : m < 18446744073709551616) : (BitVec.ofInt (IntKind.bits .u64) (x : Int) &&& BitVec.ofInt (IntKind.bits .u64) (m : Int)).toNat = x &&& m := by
  rw [BitVec.toNat_and, BitVec.ofInt_natCast, BitVec.ofInt_natCast, BitVec.toNat_ofNat, BitVec.toNat_ofNat]
  show x % 18446744073709551616 &&& m % 18446744073709551616 = _
  rw [Nat.mod_eq_of_lt hx, Nat.mod_eq_of_lt hm]
theorem or_nat (x m : Nat) (hx : x < 18446744073709551616) (hm : m < 18446744073709551616) : (BitVec.ofInt (IntKind.bits .u64) (x : Int) ||| BitVec.ofInt (IntKind.bits .u64) (m : Int)).toNat = x ||| m := by
  rw [BitVec.toNat_or, BitVec.ofInt_natCast, BitVec.ofInt_natCast, BitVec.toNat_ofNat, BitVec.toNat_ofNat]
  show x % 18446744073709551616 ||| m % 18446744073709551616 = _
  rw [Nat.mod_eq_of_lt hx, Nat.mod_eq_of_lt hm]
/-- A float's exponent, and its digits. -/
def eB (n : Nat) : Nat := n / 4503599627370496 % 2048
def mB (n : Nat) : Nat := 4503599627370496 + n % 4503599627370496
theorem e_eq (n : Nat) (hn : n < 18446744073709551616) : IntKind.wrap .i64 (IntKind.wrap .u64 ((BitVec.ofInt (IntKind.bits .u64) (Int.fdiv (n : Int) (2 ^ (min (52 : Int).toNat (IntKind.bits .u64)))) &&& BitVec.ofInt (IntKind.bits .u64) 2047).toNat : Int)) = (eB n : Int) := by
  have h1 : Int.fdiv (n : Int) (2 ^ (min (52 : Int).toNat (IntKind.bits .u64))) = ((n / 4503599627370496 : Nat) : Int) := by
    rw [show min (52 : Int).toNat (IntKind.bits .u64) = 52 from rfl, fdiv_pow, ← p52]
  have h2 : (n / 4503599627370496 &&& 2047) = eB n := Nat.and_two_pow_sub_one_eq_mod _ 11
  have h3 : eB n < 2048 := Nat.mod_lt _ (by decide)
  rw [h1, show (2047 : Int) = ((2047 : Nat) : Int) from rfl, and_nat _ _ (by omega) (by decide), h2, wrap_u64 (by omega), wrap_i64 (by omega) (by omega)]
theorem m_eq (n : Nat) (hn : n < 18446744073709551616) : IntKind.wrap .u64 ((BitVec.ofInt (IntKind.bits .u64) (IntKind.wrap .u64 ((BitVec.ofInt (IntKind.bits .u64) (n : Int) &&& BitVec.ofInt (IntKind.bits .u64) 4503599627370495).toNat : Int)) ||| BitVec.ofInt (IntKind.bits .u64) 4503599627370496).toNat : Int) = (mB n : Int) := by
  have h2 : (n &&& 4503599627370495) = n % 4503599627370496 := Nat.and_two_pow_sub_one_eq_mod _ 52
  have h3 : n % 4503599627370496 < 2 ^ 52 := by rw [← p52]; exact Nat.mod_lt _ (by decide)
  have h4 := Nat.two_pow_add_eq_or_of_lt h3 1
  rw [Nat.mul_one, ← p52] at h4
  rw [show (4503599627370495 : Int) = ((4503599627370495 : Nat) : Int) from rfl, and_nat _ _ hn (by decide), h2, wrap_u64 (n := n % 4503599627370496) (by omega), show (4503599627370496 : Int) = ((4503599627370496 : Nat) : Int) from rfl, or_nat _ _ (by omega) (by decide), Nat.or_comm, ← h4]
  exact wrap_u64 (by omega)
theorem shl1 (n : Nat) (hn : n < 18446744073709551616) : ((IntKind.wrap .u64 ((n : Int) * 2 ^ (min (1 : Int).toNat (IntKind.bits .u64))) : Int) == 0) = decide (rung n = 0) := by
  have : IntKind.wrap .u64 ((n : Int) * 2 ^ (min (1 : Int).toNat (IntKind.bits .u64))) = ((2 * rung n : Nat) : Int) := by
    rw [show (2 : Int) ^ (min (1 : Int).toNat (IntKind.bits .u64)) = 2 from rfl]
    simp only [IntKind.wrap, IntKind.bits, IntKind.signed, Bool.false_and, rung]
    simp; omega
  rw [this]
  by_cases h : rung n = 0
  · rw [decide_eq_true h, h]; rfl
  · rw [decide_eq_false h, beq_eq_false_iff_ne]; omega
theorem top1 (n : Nat) (hn : n < 18446744073709551616) : ((Int.fdiv (n : Int) (2 ^ (min (63 : Int).toNat (IntKind.bits .u64))) : Int) == 1) = negB n := by
  rw [show min (63 : Int).toNat (IntKind.bits .u64) = 63 from rfl, fdiv_pow, show (2 ^ 63 : Nat) = 9223372036854775808 by decide]
  unfold negB
  have h : n / 9223372036854775808 = 0 ∨ n / 9223372036854775808 = 1 := by omega
  rcases h with h | h <;> rw [h] <;> rfl
/-- .. and by these. -/
theorem rung_em (n : Nat) : rung n / 4503599627370496 = eB n ∧ rung n % 4503599627370496 = n % 4503599627370496 := by unfold rung eB; omega
theorem V_em {n : Nat} (h : 1 ≤ eB n) : Vr (rung n) = mB n * 2 ^ (eB n - 1) := by
  obtain ⟨h1, h2⟩ := rung_em n
  unfold Vr; rw [if_neg (by omega), h1, h2]; rfl
theorem mB_lt (n : Nat) : 4503599627370496 ≤ mB n ∧ mB n < 9007199254740992 := by unfold mB; omega
theorem V_low {n : Nat} (h : eB n < 1023) : Vr (rung n) < 2 ^ eU := by
  have hU := eU_eq
  obtain ⟨h1, h2⟩ := rung_em n
  have hm := mB_lt n
  by_cases h0 : eB n = 0
  · have : rung n < 4503599627370496 := by omega
    unfold Vr; rw [if_pos this]
    exact Nat.lt_of_lt_of_le (by rw [← p52]; exact this) (Nat.pow_le_pow_right (n := 2) (i := 52) (j := eU) (by decide) (by omega))
  · rw [V_em (by omega)]
    calc mB n * 2 ^ (eB n - 1) < 2 ^ 53 * 2 ^ (eB n - 1) := Nat.mul_lt_mul_of_pos_right (by rw [show (2 ^ 53 : Nat) = 9007199254740992 by decide]; exact hm.2) (Nat.pos_of_ne_zero (by simp))
      _ = 2 ^ (53 + (eB n - 1)) := by rw [Nat.pow_add]
      _ ≤ 2 ^ eU := Nat.pow_le_pow_right (by decide) (by omega)
theorem V_pos {r : Nat} (h : r ≠ 0) : Vr r ≠ 0 := by
  unfold Vr
  split
  · exact h
  · exact Nat.mul_ne_zero (by omega) (by simp)
theorem V_high {n : Nat} (h : 1075 ≤ eB n) : Vr (rung n) = mB n * 2 ^ (eB n - 1075) * 2 ^ eU := by
  have hU := eU_eq
  rw [V_em (by omega), Nat.mul_assoc, ← Nat.pow_add]; congr 2; omega
theorem V_mid {n : Nat} (h : 1023 ≤ eB n) (h2 : eB n < 1075) : Vr (rung n) / 2 ^ eU = mB n / 2 ^ (1075 - eB n) ∧ (Vr (rung n) / 2 ^ eU * 2 ^ eU = Vr (rung n) ↔ mB n / 2 ^ (1075 - eB n) * 2 ^ (1075 - eB n) = mB n) := by
  have hU := eU_eq
  have hp : 0 < 2 ^ (eB n - 1) := Nat.pos_of_ne_zero (by simp)
  have e1 : 2 ^ eU = 2 ^ (1075 - eB n) * 2 ^ (eB n - 1) := by rw [← Nat.pow_add]; congr 1; omega
  have e2 : Vr (rung n) / 2 ^ eU = mB n / 2 ^ (1075 - eB n) := by rw [V_em (by omega), e1, Nat.mul_div_mul_right _ _ hp]
  refine ⟨e2, ?_⟩
  rw [e2, V_em (by omega), e1, ← Nat.mul_assoc]
  exact ⟨fun h => Nat.eq_of_mul_eq_mul_right hp h, fun h => by rw [h]⟩
theorem wholeN_yes {a T : Nat} (hr : rung a < 9218868437227405312) (hT : Vr (rung a) / 2 ^ eU = T) (h2 : T * 2 ^ eU = Vr (rung a)) (h3 : T < 9223372036854775808 ∨ (negB a = true ∧ T = 9223372036854775808)) : wholeN a = (match negB a with | true => -(T : Int) | false => (T : Int), true) := by
  unfold wholeN; rw [hT, decide_eq_true ⟨hr, h2, h3⟩]; rfl
theorem j0_ok (n : Nat) (hn : n < 18446744073709551616) (T : Nat) (hT : T < 9223372036854775808) : Runs (fun k => chartularylaw04_worth.j0 k (n : Int) (T : Int)) ((match negB n with | true => -(T : Int) | false => (T : Int), true, ()), ()) := by
  refine Runs.step (fun k => by rw [chartularylaw04_worth.j0]) ?_
  refine Runs.ck rfl ?_
  rw [top1 n hn]
  have e1 : IntKind.wrap .i64 (T : Int) = (T : Int) := wrap_i64 (by omega) (by omega)
  refine Runs.cond (fun h => ?_) fun h => ?_
  · rw [h, e1]; exact Runs.some' (by rw [wrap_i64 (by omega) (by omega)]; simp)
  · rw [h, e1]; exact Runs.some
theorem worth_ok (n : Nat) (hn : n < 18446744073709551616) : Runs (fun k => chartularylaw04_worth.f k (n : Int)) (((wholeN n).1, (wholeN n).2, ()), ()) := by
  have hU := eU_eq
  have hUp := U_pos
  have hem := rung_em n
  have hm := mB_lt n
  refine Runs.step (fun k => by rw [chartularylaw04_worth.f]) ?_
  refine Runs.ck rfl ?_
  simp only [e_eq n hn, m_eq n hn]
  rw [shl1 n hn]
  refine Runs.dec (fun h => ?_) fun h0 => Runs.ck (b := !decide ((52 : Int) < 0)) rfl (Runs.cond (fun h => ?_) fun h => ?_)
  · rw [wholeN_yes (T := 0) (by omega) (by rw [h]; simp [Vr]) (by rw [h]; simp [Vr]) (.inl (by decide))]
    cases negB n <;> exact Runs.some
  · rw [beq_iff_eq] at h
    have h : n = 14114281232179134464 := by omega
    subst h
    obtain ⟨g1, g2, g3, g4⟩ := big_rung
    rw [wholeN_yes (T := 9223372036854775808) (by rw [g1]; decide) (by rw [g1, big_V, Nat.mul_div_cancel _ hUp]) (by rw [g1, big_V]) (.inr ⟨g2, rfl⟩), g2]
    exact Runs.some
  · rw [beq_eq_false_iff_ne] at h
    refine Runs.dec (fun h1 => ?_) fun h1 => Runs.dec (fun h2 => ?_) fun h2 => Runs.dec (fun h3 => ?_) fun h3 => ?_
    · rw [wholeN_no]; exact Runs.some
      rintro ⟨_, k1, _⟩
      rw [Nat.div_eq_of_lt (V_low (by omega)), Nat.zero_mul] at k1
      exact V_pos h0 k1.symm
    · rw [wholeN_no]; exact Runs.some
      rintro ⟨k0, k1, k2⟩
      rw [V_high (by omega), Nat.mul_div_cancel _ hUp] at k2
      have k3 : 4503599627370496 * 2048 ≤ mB n * 2 ^ (eB n - 1075) := Nat.mul_le_mul hm.1 (Nat.pow_le_pow_right (n := 2) (i := 11) (by decide) (by omega))
      rcases k2 with k2 | ⟨k2, k4⟩
      · omega
      · have k5 : eB n = 1086 := by
          apply Nat.le_antisymm _ (by omega)
          apply Nat.le_of_not_lt; intro hh
          have : 4503599627370496 * 4096 ≤ mB n * 2 ^ (eB n - 1075) := Nat.mul_le_mul hm.1 (Nat.pow_le_pow_right (n := 2) (i := 12) (by decide) (by omega))
          omega
        rw [k5, show 2 ^ (1086 - 1075) = 2048 from rfl] at k4
        have k6 : n % 4503599627370496 = 0 := by unfold mB at k4; omega
        have k7 : n / 9223372036854775808 = 1 := by
          unfold negB at k2; rw [beq_iff_eq] at k2; omega
        have k8 : n / 4503599627370496 % 2048 = 1086 := k5
        omega
    · have k1 : IntKind.wrap .i64 (1075 - (eB n : Int)) = ((1075 - eB n : Nat) : Int) := by rw [wrap_i64 (by omega) (by omega)]; omega
      obtain ⟨v1, v2⟩ := V_mid (n := n) (by omega) (by omega)
      have k2 : min (((1075 - eB n : Nat) : Int)).toNat (IntKind.bits .u64) = 1075 - eB n := by
        rw [Int.toNat_natCast]; exact Nat.min_eq_left (by show 1075 - eB n ≤ 64; omega)
      have hle : mB n / 2 ^ (1075 - eB n) ≤ mB n := Nat.div_le_self _ _
      have hle2 : mB n / 2 ^ (1075 - eB n) * 2 ^ (1075 - eB n) ≤ mB n := Nat.div_mul_le_self _ _
      simp only [k1, k2, fdiv_pow]
      rw [show ((mB n / 2 ^ (1075 - eB n) : Nat) : Int) * 2 ^ (1075 - eB n) = ((mB n / 2 ^ (1075 - eB n) * 2 ^ (1075 - eB n) : Nat) : Int) by rw [Int.natCast_mul, Int.natCast_pow]; rfl, wrap_u64 (by omega)]
      refine Runs.ck (by rw [decide_eq_false (by omega)]; rfl) (Runs.ck (by rw [decide_eq_false (by omega)]; rfl) (Runs.cond (fun h5 => ?_) fun h5 => ?_))
      · rw [wholeN_no]; exact Runs.some
        rintro ⟨_, k3, _⟩
        rw [bne_iff_ne] at h5
        exact h5 (by rw [v2.1 k3])
      · have h5 : mB n / 2 ^ (1075 - eB n) * 2 ^ (1075 - eB n) = mB n := by
          rw [bne_eq_false_iff_eq] at h5; exact Int.ofNat.inj h5
        have hV := v2.2 h5
        rw [v1] at hV
        rw [wholeN_yes (by omega) v1 hV (.inl (by omega))]
        exact Runs.ck (by rw [decide_eq_false (by omega)]; rfl) (j0_ok n hn _ (by omega))
    · have k1 : IntKind.wrap .i64 ((eB n : Int) - 1075) = ((eB n - 1075 : Nat) : Int) := by rw [wrap_i64 (by omega) (by omega)]; omega
      have k2 : min (((eB n - 1075 : Nat) : Int)).toNat (IntKind.bits .u64) = eB n - 1075 := by
        rw [Int.toNat_natCast]; exact Nat.min_eq_left (by show eB n - 1075 ≤ 64; omega)
      have k3 : mB n * 2 ^ (eB n - 1075) < 9223372036854775808 := by
        calc mB n * 2 ^ (eB n - 1075) ≤ mB n * 1024 := Nat.mul_le_mul_left _ (Nat.pow_le_pow_right (n := 2) (j := 10) (by decide) (by omega))
          _ < 9223372036854775808 := by omega
      have hV := V_high (n := n) (by omega)
      simp only [k1, k2]
      rw [show (mB n : Int) * 2 ^ (eB n - 1075) = ((mB n * 2 ^ (eB n - 1075) : Nat) : Int) by rw [Int.natCast_mul, Int.natCast_pow]; rfl, wrap_u64 (by omega)]
      rw [wholeN_yes (T := mB n * 2 ^ (eB n - 1075)) (by omega) (by rw [hV, Nat.mul_div_cancel _ hUp]) hV.symm (.inl k3)]
      exact Runs.ck (by rw [decide_eq_false (by omega)]; rfl) (j0_ok n hn _ k3)
end Go.Proofs.Ytnedfkfelagmpaa.Pure
