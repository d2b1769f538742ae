/- Plain laws: floats that are summed, and divided. -/
import Derived.Test.YtcjiipbppkdkaaaPFlo
namespace Go.Proofs.Ytcjiipbppkdkaaa.Pure
open Go Go.Proofs.Ytcjiipbppkdkaaa.Eng
set_option linter.unusedVariables false
set_option linter.unusedSimpArgs false

theorem pow0 (n : Nat) : 0 < 2 ^ n := Nat.pos_of_ne_zero (by simp)
/-- A number that there is is written as it, from wherever its digits end. -/
theorem nearest_at {neg : Bool} {mag : Nat} {p : Int} {K q u v : Nat} (hm : mag ≠ 0) (hp : p = (u : Int) - (v : Int) - 1074) (huv : u = 0 ∨ v = 0) (he : mag * 2 ^ u = K * 2 ^ (q + v)) (hK : K < 9007199254740992) (hq : q = 0 ∨ 4503599627370496 ≤ K) (hi : q * 4503599627370496 + K < 9218868437227405312) :
    Ieee.double.nearest neg mag p = Ieee.double.word neg (q * 4503599627370496 + K) := by
  unfold Ieee.Format.nearest
  rw [if_neg hm]
  simp only [d_fb, d_lp, d_bi, d_inf]
  have hl1 : 2 ^ mag.log2 ≤ mag := Nat.log2_self_le hm
  have hl2 : mag < 2 ^ (mag.log2 + 1) := Nat.lt_log2_self
  have hK53 : K < 2 ^ 53 := by rw [show (2 ^ 53 : Nat) = 9007199254740992 by decide]; exact hK
  have hKpos : 0 < K := by
    apply Nat.pos_of_ne_zero; intro h; rw [h, Nat.zero_mul] at he
    have := Nat.mul_pos (Nat.pos_of_ne_zero hm) (pow0 u); omega
  have a1 : mag.log2 + u < 53 + (q + v) := by
    rw [← Nat.pow_lt_pow_iff_right (a := 2) (by decide), Nat.pow_add, Nat.pow_add 2 53]
    calc 2 ^ mag.log2 * 2 ^ u ≤ mag * 2 ^ u := Nat.mul_le_mul_right _ hl1
      _ = K * 2 ^ (q + v) := he
      _ < 2 ^ 53 * 2 ^ (q + v) := Nat.mul_lt_mul_of_pos_right hK53 (pow0 _)
  have a2 : 4503599627370496 ≤ K → 52 + (q + v) < mag.log2 + 1 + u := by
    intro h
    rw [← Nat.pow_lt_pow_iff_right (a := 2) (by decide), Nat.pow_add 2 52, Nat.pow_add 2 (mag.log2 + 1)]
    calc 2 ^ 52 * 2 ^ (q + v) ≤ K * 2 ^ (q + v) := Nat.mul_le_mul_right _ (by rw [← p52]; exact h)
      _ = mag * 2 ^ u := he.symm
      _ < 2 ^ (mag.log2 + 1) * 2 ^ u := Nat.mul_lt_mul_of_pos_right hl2 (pow0 u)
  have a3 : K < 4503599627370496 → q = 0 → mag.log2 + u < 52 + v := by
    intro h h0
    rw [← Nat.pow_lt_pow_iff_right (a := 2) (by decide), Nat.pow_add, Nat.pow_add 2 52]
    calc 2 ^ mag.log2 * 2 ^ u ≤ mag * 2 ^ u := Nat.mul_le_mul_right _ hl1
      _ = K * 2 ^ v := by rw [he, h0, Nat.zero_add]
      _ < 2 ^ 52 * 2 ^ v := Nat.mul_lt_mul_of_pos_right (by rw [← p52]; exact h) (pow0 _)
  have hlast : max (p + (mag.log2 : Int) - 52) (-1074) = (q : Int) - 1074 := by
    by_cases h : 4503599627370496 ≤ K
    · have := a2 h; omega
    · have h0 : q = 0 := by omega
      have := a3 (by omega) h0; omega
  have hcast : ((52 : Nat) : Int) = 52 := rfl
  simp only [hcast, hlast]
  have hkept : Ieee.Toward.even.cut neg (mag <<< (p - ((q : Int) - 1074)).toNat) ((q : Int) - 1074 - p).toNat = K := by
    rw [Nat.shiftLeft_eq]
    by_cases h : (q : Int) - 1074 ≤ p
    · have e1 : ((q : Int) - 1074 - p).toNat = 0 := by omega
      have e2 : u = (p - ((q : Int) - 1074)).toNat + (q + v) := by omega
      rw [e1]
      have : mag * 2 ^ (p - ((q : Int) - 1074)).toNat = K := by
        rw [e2, Nat.pow_add, ← Nat.mul_assoc] at he
        exact Nat.eq_of_mul_eq_mul_right (pow0 _) he
      rw [this]
      have := ecut neg K 0 (.inl rfl)
      simpa using this
    · have e1 : (p - ((q : Int) - 1074)).toNat = 0 := by omega
      have e2 : q + v = ((q : Int) - 1074 - p).toNat + u := by omega
      rw [e1]
      have : mag = K * 2 ^ ((q : Int) - 1074 - p).toNat := by
        have he' : mag * 2 ^ u = K * 2 ^ ((q : Int) - 1074 - p).toNat * 2 ^ u := by
          rw [he, Nat.mul_assoc, ← Nat.pow_add, ← e2]
        exact Nat.eq_of_mul_eq_mul_right (pow0 u) he'
      have h2 := ecut neg K ((q : Int) - 1074 - p).toNat (.inr hKpos)
      rw [← this] at h2
      simpa using h2
  rw [hkept]
  have e3 : ((q : Int) - 1074 - -1074).toNat = q := by omega
  rw [e3, Nat.min_eq_left (Nat.le_of_lt hi)]
/-- A float's lower bits as digits and a place. -/
theorem rung_KQ (r : Nat) (hr : r < 9218868437227405312) : ∃ K q, r = q * 4503599627370496 + K ∧ K < 9007199254740992 ∧ (q = 0 ∨ 4503599627370496 ≤ K) ∧ Vr r = K * 2 ^ q := by
  by_cases h : r < 4503599627370496
  · exact ⟨r, 0, by omega, by omega, .inl rfl, by unfold Vr; rw [if_pos h]; simp⟩
  · refine ⟨4503599627370496 + r % 4503599627370496, r / 4503599627370496 - 1, by omega, by omega, .inr (by omega), ?_⟩
    unfold Vr; rw [if_neg h]
theorem Vr_lt {r s : Nat} (h : r < s) : Vr r < Vr s := by
  have step : ∀ n, Vr n < Vr (n + 1) := by
    intro n
    by_cases h1 : n + 1 < 4503599627370496
    · unfold Vr; rw [if_pos h1, if_pos (by omega)]; omega
    · by_cases h2 : n < 4503599627370496
      · have e : n = 4503599627370495 := by omega
        subst e; decide
      · by_cases h3 : n % 4503599627370496 + 1 < 4503599627370496
        · have e1 : (n + 1) % 4503599627370496 = n % 4503599627370496 + 1 := by omega
          have e2 : (n + 1) / 4503599627370496 = n / 4503599627370496 := by omega
          unfold Vr; rw [if_neg h2, if_neg h1, e1, e2]
          exact Nat.mul_lt_mul_of_pos_right (by omega) (pow0 _)
        · have e1 : (n + 1) % 4503599627370496 = 0 := by omega
          have e2 : (n + 1) / 4503599627370496 - 1 = (n / 4503599627370496 - 1) + 1 := by omega
          unfold Vr; rw [if_neg h2, if_neg h1, e1, e2, Nat.pow_succ, Nat.mul_comm (2 ^ _) 2, ← Nat.mul_assoc]
          exact Nat.mul_lt_mul_of_pos_right (by omega) (pow0 _)
  induction h with
  | refl => exact step r
  | step h ih => exact Nat.lt_trans ih (step _)
theorem Vr_le {r s : Nat} (h : r ≤ s) : Vr r ≤ Vr s := by
  rcases Nat.lt_or_eq_of_le h with h | h
  · exact Nat.le_of_lt (Vr_lt h)
  · rw [h]; exact Nat.le_refl _
/-- What is cut has no more than so many digits, and one. -/
theorem cut_le (s : Bool) (n d m : Nat) (h : n < m * 2 ^ d) : Ieee.Toward.even.cut s n d ≤ m := by
  unfold Ieee.Toward.cut
  simp only [Nat.shiftLeft_eq, Nat.one_mul]
  have hb : ∀ b : Bool, b.toNat ≤ 1 := fun b => by cases b <;> decide
  by_cases hd : d ≤ n.log2 + 2
  · rw [Nat.min_eq_left hd]
    have h1 : n / 2 ^ d < m := Nat.div_lt_of_lt_mul (by rw [Nat.mul_comm]; exact h)
    have := hb (decide (2 ^ d < 2 * (n % 2 ^ d)) || (2 ^ d == 2 * (n % 2 ^ d)) && n / 2 ^ d % 2 == 1)
    omega
  · rw [Nat.min_eq_right (by omega)]
    have h1 : n < 2 ^ (n.log2 + 1) := Nat.lt_log2_self
    have h2 : 2 ^ (n.log2 + 1) ≤ 2 ^ (n.log2 + 2) := Nat.pow_le_pow_right (by decide) (by omega)
    rw [Nat.div_eq_of_lt (by omega)]
    have := hb (decide (2 ^ (n.log2 + 2) < 2 * (n % 2 ^ (n.log2 + 2))) || (2 ^ (n.log2 + 2) == 2 * (n % 2 ^ (n.log2 + 2))) && 0 % 2 == 1)
    have hm : 0 < m := by
      apply Nat.pos_of_ne_zero; intro e; rw [e, Nat.zero_mul] at h; omega
    omega
/-- A number that is not too great is written as a float that is not. -/
theorem nearest_le {neg : Bool} {mag : Nat} {p : Int} {q : Nat} (hp : -1074 ≤ p) (hN : mag * 2 ^ (p + 1074).toNat ≤ 2 ^ (52 + q)) (hq : (q + 1) * 4503599627370496 < 9218868437227405312) :
    ∃ w, w < 9218868437227405312 ∧ Ieee.double.nearest neg mag p = Ieee.double.word neg w ∧ Vr w ≤ 2 ^ (52 + q) := by
  have top : ∀ {w : Nat}, w ≤ (q + 1) * 4503599627370496 → Vr w ≤ 2 ^ (52 + q) := by
    intro w hw
    have := Vr_at (K := 4503599627370496) (q := q) (by decide) (.inr (Nat.le_refl _))
    rw [show q * 4503599627370496 + 4503599627370496 = (q + 1) * 4503599627370496 by omega] at this
    rw [Nat.pow_add, ← p52, ← this]; exact Vr_le hw
  by_cases hm : mag = 0
  · subst hm; exact ⟨0, by decide, rfl, by simp [Vr]⟩
  have hl1 : 2 ^ mag.log2 ≤ mag := Nat.log2_self_le hm
  have hl2 : mag < 2 ^ (mag.log2 + 1) := Nat.lt_log2_self
  have hp' : p = ((p + 1074).toNat : Int) - ((0 : Nat) : Int) - 1074 := by omega
  generalize hu : (p + 1074).toNat = u at *
  have a1 : mag.log2 + u ≤ 52 + q := by
    rw [← Nat.pow_le_pow_iff_right (a := 2) (by decide), Nat.pow_add]
    exact Nat.le_trans (Nat.mul_le_mul_right _ hl1) hN
  by_cases h1 : mag.log2 + u = 52 + q
  · have e : mag * 2 ^ u = 4503599627370496 * 2 ^ (q + 0) := by
      have e0 : 4503599627370496 * 2 ^ (q + 0) = 2 ^ (52 + q) := by rw [Nat.add_zero, Nat.pow_add]
      rw [e0]
      apply Nat.le_antisymm hN
      rw [← h1, Nat.pow_add]; exact Nat.mul_le_mul_right _ hl1
    refine ⟨_, ?_, nearest_at (K := 4503599627370496) (q := q) (u := u) (v := 0) hm hp' (.inr rfl) e (by omega) (.inr (Nat.le_refl _)) (by omega), top (by omega)⟩
    omega
  · by_cases h2 : mag.log2 + u < 52
    · have hlt : mag * 2 ^ u < 4503599627370496 := by
        rw [p52]
        calc mag * 2 ^ u < 2 ^ (mag.log2 + 1) * 2 ^ u := Nat.mul_lt_mul_of_pos_right hl2 (pow0 _)
          _ = 2 ^ (mag.log2 + 1 + u) := by rw [Nat.pow_add 2 (mag.log2 + 1) u]
          _ ≤ 2 ^ 52 := Nat.pow_le_pow_right (by decide) (by omega)
      obtain ⟨q0, hq0⟩ : ∃ q0 : Nat, q0 = 0 := ⟨0, rfl⟩
      have hk : ∀ N, mag * 2 ^ u = N → N < 4503599627370496 → Ieee.double.nearest neg mag p = Ieee.double.word neg (q0 * 4503599627370496 + N) := fun N hN h3 =>
        nearest_at (q := q0) (u := u) (v := 0) hm hp' (.inr rfl) (by rw [hq0, Nat.add_zero, Nat.pow_zero, Nat.mul_one]; exact hN) (by omega) (.inl hq0) (by omega)
      generalize mag * 2 ^ u = N at hlt hk
      exact ⟨q0 * 4503599627370496 + N, by omega, hk N rfl hlt, top (by omega)⟩
    · have hlast : max (p + (mag.log2 : Int) - 52) (-1074) = ((mag.log2 + u - 52 : Nat) : Int) - 1074 := by omega
      have hkept : Ieee.Toward.even.cut neg (mag <<< (p - (((mag.log2 + u - 52 : Nat) : Int) - 1074)).toNat) (((mag.log2 + u - 52 : Nat) : Int) - 1074 - p).toNat ≤ 9007199254740992 := by
        apply cut_le
        rw [Nat.shiftLeft_eq]
        calc mag * 2 ^ (p - (((mag.log2 + u - 52 : Nat) : Int) - 1074)).toNat < 2 ^ (mag.log2 + 1) * 2 ^ (p - (((mag.log2 + u - 52 : Nat) : Int) - 1074)).toNat := Nat.mul_lt_mul_of_pos_right hl2 (pow0 _)
          _ = 2 ^ (mag.log2 + 1 + (p - (((mag.log2 + u - 52 : Nat) : Int) - 1074)).toNat) := by rw [Nat.pow_add 2 (mag.log2 + 1)]
          _ ≤ 2 ^ (53 + (((mag.log2 + u - 52 : Nat) : Int) - 1074 - p).toNat) := Nat.pow_le_pow_right (by decide) (by omega)
          _ = 9007199254740992 * 2 ^ (((mag.log2 + u - 52 : Nat) : Int) - 1074 - p).toNat := by rw [Nat.pow_add, show (2 ^ 53 : Nat) = 9007199254740992 by decide]
      have hcast : ((52 : Nat) : Int) = 52 := rfl
      have e3 : (((mag.log2 + u - 52 : Nat) : Int) - 1074 - -1074).toNat = mag.log2 + u - 52 := by omega
      refine ⟨(mag.log2 + u - 52) * 4503599627370496 + Ieee.Toward.even.cut neg (mag <<< (p - (((mag.log2 + u - 52 : Nat) : Int) - 1074)).toNat) (((mag.log2 + u - 52 : Nat) : Int) - 1074 - p).toNat, by omega, ?_, top (by omega)⟩
      unfold Ieee.Format.nearest
      rw [if_neg hm]
      simp only [d_fb, d_lp, d_bi, d_inf, hcast, hlast, e3]
      rw [Nat.min_eq_left (by omega)]
end Go.Proofs.Ytcjiipbppkdkaaa.Pure
