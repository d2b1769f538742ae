/- Plain laws: floats by their bits: what they are worth, compared, cut to whole numbers. -/
import Derived.Test.YtcjiipbppkdkaaaPBase
namespace Go.Proofs.Ytcjiipbppkdkaaa.Pure
open Go Go.Proofs.Ytcjiipbppkdkaaa.Eng
set_option linter.unusedVariables false
set_option linter.unusedSimpArgs false
theorem d_sw : Ieee.double.signWeight = 9223372036854775808 := by decide
theorem d_bi : Ieee.double.binade = 4503599627370496 := by decide
theorem d_inf : Ieee.double.infRung = 9218868437227405312 := by decide
theorem d_lp : Ieee.double.leastPlace = -1074 := by decide
theorem d_fb : Ieee.double.fractionBits = 52 := rfl
theorem p52 : (4503599627370496 : Nat) = 2 ^ 52 := by decide
def Vr (r : Nat) : Nat := if r < 4503599627370496 then r else (4503599627370496 + r % 4503599627370496) * 2 ^ (r / 4503599627370496 - 1)
def negB (b : Nat) : Bool := b / 9223372036854775808 % 2 == 1
def rung (b : Nat) : Nat := b % 9223372036854775808
def sV (b : Nat) : Int := match negB b with | true => -(Vr (rung b) : Int) | false => (Vr (rung b) : Int)
theorem read_fin {b : Nat} (h : rung b < 9218868437227405312) : ∃ m p, Ieee.double.read b = .number (negB b) m p ∧ -1074 ≤ p ∧ m * 2 ^ (p + 1074).toNat = Vr (rung b) := by
 unfold Ieee.Format.read
 simp only [d_sw, d_bi, d_inf, d_lp]
 change rung b < _ at h
 by_cases h1 : b % 9223372036854775808 < 4503599627370496
 ·rw [if_pos h1]
  refine ⟨_, _, rfl, by omega, ?_⟩
  unfold Vr rung; rw [if_pos h1]; simp
 ·rw [if_neg h1, if_pos (show b % 9223372036854775808 < 9218868437227405312 from h)]
  refine ⟨_, _, rfl, by omega, ?_⟩
  unfold Vr rung; rw [if_neg h1]
  congr 2
  omega
theorem read_inf {b : Nat} (h : rung b = 9218868437227405312) : Ieee.double.read b = .infinity (negB b) := by
 unfold Ieee.Format.read
 simp only [d_sw, d_bi, d_inf, d_lp]
 unfold rung at h
 rw [if_neg (by omega), if_neg (by omega), if_pos h]; rfl
theorem read_nan {b : Nat} (h : 9218868437227405312 < rung b) : (Ieee.double.read b).isNaN = true := by
 unfold Ieee.Format.read
 simp only [d_sw, d_bi, d_inf, d_lp]
 unfold rung at h
 rw [if_neg (by omega), if_neg (by omega), if_neg (by omega)]; rfl
theorem fnan_eq (b : Nat) : fnan b = decide (9218868437227405312 < rung b) := by
 unfold fnan rung
 cases h : Nat.blt 9218868437227405312 (b % 9223372036854775808) with
 | true => rw [Nat.blt_eq] at h; exact (decide_eq_true h).symm
 | false => symm; apply decide_eq_false; intro hh; rw [← Nat.blt_eq] at hh; rw [hh] at h; cases h
theorem signed_eq (s : Bool) (m u : Nat) : Ieee.signed s m u = match s with | true => -((m * 2 ^ u : Nat) : Int) | false => ((m * 2 ^ u : Nat) : Int) := by
 unfold Ieee.signed; rw [Nat.shiftLeft_eq]; cases s <;> simp
theorem signed_scale (s : Bool) (m u c : Nat) : Ieee.signed s m (u + c) = Ieee.signed s m u * ((2 ^ c : Nat) : Int) := by
 rw [signed_eq, signed_eq]
 cases s
 ·simp only []; rw [← Int.natCast_mul, Nat.pow_add, Nat.mul_assoc]
 ·simp only []; rw [Int.neg_mul, ← Int.natCast_mul, Nat.pow_add, Nat.mul_assoc]
theorem cmp_int (x y : Int) : compare x y = if x < y then .lt else if x = y then .eq else .gt := rfl
theorem cmp_scale (x y : Int) (c : Nat) (hc : 0 < c) : compare (x * (c : Int)) (y * (c : Int)) = compare x y := by
 rw [cmp_int, cmp_int]
 have hc' : (0 : Int) < (c : Int) := by omega
 by_cases h1 : x < y
 ·rw [if_pos h1, if_pos (Int.mul_lt_mul_of_pos_right h1 hc')]
 ·have h1' : ¬ x * (c : Int) < y * (c : Int) := fun h => h1 (Int.lt_of_mul_lt_mul_right h (Int.le_of_lt hc'))
  rw [if_neg h1, if_neg h1']
  by_cases h2 : x = y
  ·subst h2; rw [if_pos rfl, if_pos rfl]
  ·rw [if_neg h2, if_neg (fun h => h2 (Int.eq_of_mul_eq_mul_right (by omega) h))]
theorem order_fin {a b : Nat} (ha : rung a < 9218868437227405312) (hb : rung b < 9218868437227405312) : Ieee.double.order a b = some (compare (sV a) (sV b)) := by
 obtain ⟨m, i, h1, h2, h3⟩ := read_fin ha
 obtain ⟨n, j, k1, k2, k3⟩ := read_fin hb
 have e1 : sV a = Ieee.signed (negB a) m (i + 1074).toNat := by rw [signed_eq, h3]; unfold sV; cases negB a <;> rfl
 have e2 : sV b = Ieee.signed (negB b) n (j + 1074).toNat := by rw [signed_eq, k3]; unfold sV; cases negB b <;> rfl
 unfold Ieee.Format.order
 rw [h1, k1, e1, e2]
 simp only [Ieee.Datum.order]
 have f1 : (i + 1074).toNat = (i - min i j).toNat + (min i j + 1074).toNat := by omega
 have f2 : (j + 1074).toNat = (j - min i j).toNat + (min i j + 1074).toNat := by omega
 rw [f1, f2, signed_scale, signed_scale, cmp_scale _ _ _ (Nat.pos_of_ne_zero (by simp))]
theorem feq_fin {a b : Nat} (ha : rung a < 9218868437227405312) (hb : rung b < 9218868437227405312) : feq a b = decide (sV a = sV b) := by
 unfold feq; rw [order_fin ha hb, cmp_int]
 by_cases h1 : sV a < sV b
 ·rw [if_pos h1, decide_eq_false (by omega)]; rfl
 ·rw [if_neg h1]
  by_cases h2 : sV a = sV b
  ·rw [if_pos h2, decide_eq_true h2]; rfl
  ·rw [if_neg h2, decide_eq_false h2]; rfl
theorem flt_fin {a b : Nat} (ha : rung a < 9218868437227405312) (hb : rung b < 9218868437227405312) : flt' a b = decide (sV a < sV b) := by
 unfold flt'; rw [order_fin ha hb, cmp_int]
 by_cases h1 : sV a < sV b
 ·rw [if_pos h1, decide_eq_true h1]; rfl
 ·rw [if_neg h1, decide_eq_false h1]; split <;> rfl
theorem fgt_fin {a b : Nat} (ha : rung a < 9218868437227405312) (hb : rung b < 9218868437227405312) : fgt a b = decide (sV a > sV b) := by
 unfold fgt; rw [order_fin ha hb, cmp_int]
 by_cases h1 : sV a < sV b
 ·rw [if_pos h1, decide_eq_false (by omega)]; rfl
 ·rw [if_neg h1]
  by_cases h2 : sV a = sV b
  ·rw [if_pos h2, decide_eq_false (by omega)]; rfl
  ·rw [if_neg h2, decide_eq_true (by omega)]; rfl
theorem order_nan {a : Nat} (h : fnan a = true) (b : Nat) : Ieee.double.order a b = none ∧ Ieee.double.order b a = none := by
 rw [fnan_eq, decide_eq_true_eq] at h
 have hn := read_nan h
 unfold Ieee.Format.order
 cases hr : Ieee.double.read a with
 | number s m i => rw [hr] at hn; cases hn
 | infinity s => rw [hr] at hn; cases hn
 | nan s t => exact ⟨by cases Ieee.double.read b <;> rfl, by cases Ieee.double.read b <;> rfl⟩
/-! ## Whole numbers of so many digits -/
theorem zcut (s : Bool) (n d : Nat) : Ieee.Toward.zero.cut s n d = n / 2 ^ d := by
 unfold Ieee.Toward.cut
 simp only [Bool.toNat_false, Nat.add_zero, Nat.shiftLeft_eq, Nat.one_mul]
 by_cases h : d ≤ n.log2 + 2
 ·rw [Nat.min_eq_left h]
 ·rw [Nat.min_eq_right (by omega)]
  have h1 : n < 2 ^ (n.log2 + 1) := Nat.lt_log2_self
  have h2 : 2 ^ (n.log2 + 1) ≤ 2 ^ (n.log2 + 2) := Nat.pow_le_pow_right (by decide) (by omega)
  have h3 : 2 ^ (n.log2 + 1) ≤ 2 ^ d := Nat.pow_le_pow_right (by decide) (by omega)
  rw [Nat.div_eq_of_lt (by omega), Nat.div_eq_of_lt (by omega)]
theorem ecut (s : Bool) (K d : Nat) (h : d = 0 ∨ 0 < K) : Ieee.Toward.even.cut s (K * 2 ^ d) d = K := by
 have hd : d ≤ (K * 2 ^ d).log2 + 2 := by
  rcases h with h | h
  ·omega
  ·have : d ≤ (K * 2 ^ d).log2 := by
    rw [Nat.le_log2 (by have := Nat.pos_of_ne_zero (n := 2 ^ d) (by simp); exact Nat.ne_of_gt (Nat.mul_pos h this))]
    exact Nat.le_mul_of_pos_left _ h
   omega
 unfold Ieee.Toward.cut
 simp only [Nat.min_eq_left hd, Nat.shiftLeft_eq, Nat.one_mul]
 have hp : 0 < 2 ^ d := Nat.pos_of_ne_zero (by simp)
 rw [Nat.mul_div_cancel _ hp, Nat.mul_mod_left]
 have e1 : decide (2 ^ d < 2 * 0) = false := by apply decide_eq_false; omega
 have e2 : (2 ^ d == 2 * 0) = false := by rw [beq_eq_false_iff_ne]; omega
 rw [e1, e2]; rfl
theorem nearest_val {neg : Bool} {mag : Nat} {p : Int} {K q : Nat} (hm : mag ≠ 0) (hp : -1074 ≤ p) (he : mag * 2 ^ (p + 1074).toNat = K * 2 ^ q) (hK : K < 9007199254740992) (hq : q = 0 ∨ 4503599627370496 ≤ K) (hi : q * 4503599627370496 + K < 9218868437227405312) :
  Ieee.double.nearest neg mag p = Ieee.double.word neg (q * 4503599627370496 + K) := by
 unfold Ieee.Format.nearest
 rw [if_neg hm]
 simp only [d_fb, d_lp, d_bi, d_inf]
 have hl1 : 2 ^ mag.log2 ≤ mag := Nat.log2_self_le hm
 have hl2 : mag < 2 ^ (mag.log2 + 1) := Nat.lt_log2_self
 have hK53 : K < 2 ^ 53 := by rw [show (2 ^ 53 : Nat) = 9007199254740992 by decide]; exact hK
 have hu : 0 < 2 ^ (p + 1074).toNat := Nat.pos_of_ne_zero (by simp)
 have hq0 : 0 < 2 ^ q := Nat.pos_of_ne_zero (by simp)
 have hKpos : 0 < K := by
  apply Nat.pos_of_ne_zero; intro h; rw [h, Nat.zero_mul] at he
  have := Nat.mul_pos (Nat.pos_of_ne_zero hm) hu; omega
 have a1 : mag.log2 + (p + 1074).toNat < 53 + q := by
  rw [← Nat.pow_lt_pow_iff_right (a := 2) (by decide), Nat.pow_add, Nat.pow_add]
  calc 2 ^ mag.log2 * 2 ^ (p + 1074).toNat ≤ mag * 2 ^ (p + 1074).toNat := Nat.mul_le_mul_right _ hl1
   _ = K * 2 ^ q := he
   _ < 2 ^ 53 * 2 ^ q := Nat.mul_lt_mul_of_pos_right hK53 hq0
 have a2 : 4503599627370496 ≤ K → 52 + q < mag.log2 + 1 + (p + 1074).toNat := by
  intro h
  rw [← Nat.pow_lt_pow_iff_right (a := 2) (by decide), Nat.pow_add, Nat.pow_add]
  calc 2 ^ 52 * 2 ^ q ≤ K * 2 ^ q := Nat.mul_le_mul_right _ (by rw [← p52]; exact h)
   _ = mag * 2 ^ (p + 1074).toNat := he.symm
   _ < 2 ^ (mag.log2 + 1) * 2 ^ (p + 1074).toNat := Nat.mul_lt_mul_of_pos_right hl2 hu
 have hlast : max (p + (mag.log2 : Int) - 52) (-1074) = (q : Int) - 1074 := by
  rcases hq with hq | hq
  ·by_cases h : 4503599627370496 ≤ K
   ·have := a2 h; omega
   ·have a3 : mag.log2 + (p + 1074).toNat < 52 := by
     rw [← Nat.pow_lt_pow_iff_right (a := 2) (by decide), Nat.pow_add]
     calc 2 ^ mag.log2 * 2 ^ (p + 1074).toNat ≤ mag * 2 ^ (p + 1074).toNat := Nat.mul_le_mul_right _ hl1
      _ = K * 2 ^ q := he
      _ = K := by rw [hq]; simp
      _ < 2 ^ 52 := by rw [← p52]; omega
    omega
  ·have := a2 hq; omega
 have hcast : ((52 : Nat) : Int) = 52 := rfl
 simp only [hcast, hlast]
 have hkept : Ieee.Toward.even.cut neg (mag <<< (p - ((q : Int) - 1074)).toNat) ((q : Int) - 1074 - p).toNat = K := by
  rw [Nat.shiftLeft_eq]
  by_cases h : (q : Int) - 1074 ≤ p
  ·have e1 : ((q : Int) - 1074 - p).toNat = 0 := by omega
   have e2 : (p + 1074).toNat = (p - ((q : Int) - 1074)).toNat + q := by omega
   rw [e1]
   have : mag * 2 ^ (p - ((q : Int) - 1074)).toNat = K := by
    rw [e2, Nat.pow_add, ← Nat.mul_assoc] at he
    exact Nat.eq_of_mul_eq_mul_right hq0 he
   rw [this]
   have := ecut neg K 0 (.inl rfl)
   simpa using this
  ·have e1 : (p - ((q : Int) - 1074)).toNat = 0 := by omega
   have e2 : q = ((q : Int) - 1074 - p).toNat + (p + 1074).toNat := by omega
   rw [e1]
   have : mag = K * 2 ^ ((q : Int) - 1074 - p).toNat := by
    have he' : mag * 2 ^ (p + 1074).toNat = K * 2 ^ ((q : Int) - 1074 - p).toNat * 2 ^ (p + 1074).toNat := by
     rw [he, Nat.mul_assoc, ← Nat.pow_add, ← e2]
    exact Nat.eq_of_mul_eq_mul_right hu he'
   have h2 := ecut neg K ((q : Int) - 1074 - p).toNat (.inr hKpos)
   rw [← this] at h2
   simpa using h2
 rw [hkept]
 have e3 : ((q : Int) - 1074 - -1074).toNat = q := by omega
 rw [e3, Nat.min_eq_left (Nat.le_of_lt hi)]
theorem Vr_at {K q : Nat} (hK : K < 9007199254740992) (hq : q = 0 ∨ 4503599627370496 ≤ K) : Vr (q * 4503599627370496 + K) = K * 2 ^ q := by
 unfold Vr
 by_cases h : q * 4503599627370496 + K < 4503599627370496
 ·have h0 : q = 0 := by omega
  rw [if_pos h, h0]; simp
 ·rw [if_neg h]
  have hK2 : 4503599627370496 ≤ K := by omega
  have e1 : (q * 4503599627370496 + K) % 4503599627370496 = K - 4503599627370496 := by omega
  have e2 : (q * 4503599627370496 + K) / 4503599627370496 - 1 = q := by omega
  rw [e1, e2, show 4503599627370496 + (K - 4503599627370496) = K by omega]
theorem word_rung {neg : Bool} {w : Nat} (h : w < 9223372036854775808) : rung (Ieee.double.word neg w) = w ∧ negB (Ieee.double.word neg w) = neg := by
 unfold rung negB Ieee.Format.word
 rw [d_sw]
 cases neg
 ·exact ⟨by simp; omega, by simp; omega⟩
 ·refine ⟨by simp; omega, ?_⟩
  simp; omega
theorem word_sV {neg : Bool} {w : Nat} (h : w < 9223372036854775808) : sV (Ieee.double.word neg w) = match neg with | true => -(Vr w : Int) | false => (Vr w : Int) := by
 unfold sV; rw [(word_rung h).1, (word_rung h).2]
def eU : Nat := 1074
theorem eU_eq : eU = 1074 := rfl
theorem nearest_small (neg : Bool) {T : Nat} (hT : T < 9007199254740992) : ∃ w, w < 9218868437227405312 ∧ Ieee.double.nearest neg T 0 = Ieee.double.word neg w ∧ Vr w = T * 2 ^ eU := by
 have hU := eU_eq
 by_cases h0 : T = 0
 ·subst h0
  exact ⟨0, by decide, rfl, by simp [Vr]⟩
 ·have hl1 : 2 ^ T.log2 ≤ T := Nat.log2_self_le h0
  have hl2 : T < 2 ^ (T.log2 + 1) := Nat.lt_log2_self
  have hl : T.log2 < 53 := by
   rw [← Nat.pow_lt_pow_iff_right (a := 2) (by decide)]
   exact Nat.lt_of_le_of_lt hl1 (by rw [show (2 ^ 53 : Nat) = 9007199254740992 by decide]; exact hT)
  have k1 : 4503599627370496 ≤ T * 2 ^ (52 - T.log2) := by
   have e : 2 ^ T.log2 * 2 ^ (52 - T.log2) = 4503599627370496 := by rw [← Nat.pow_add, show T.log2 + (52 - T.log2) = 52 by omega]
   rw [← e]; exact Nat.mul_le_mul_right _ hl1
  have k2 : T * 2 ^ (52 - T.log2) < 9007199254740992 := by
   calc T * 2 ^ (52 - T.log2) < 2 ^ (T.log2 + 1) * 2 ^ (52 - T.log2) := Nat.mul_lt_mul_of_pos_right hl2 (Nat.pos_of_ne_zero (by simp))
    _ = 9007199254740992 := by rw [← Nat.pow_add, show T.log2 + 1 + (52 - T.log2) = 53 by omega]
  have e : T * 2 ^ eU = T * 2 ^ (52 - T.log2) * 2 ^ (eU - (52 - T.log2)) := by
   rw [Nat.mul_assoc, ← Nat.pow_add]; congr 2; omega
  have hi : (eU - (52 - T.log2)) * 4503599627370496 + T * 2 ^ (52 - T.log2) < 9218868437227405312 := by omega
  refine ⟨_, hi, nearest_val h0 (by decide) (by rw [show ((0 : Int) + 1074).toNat = eU from rfl]; exact e) k2 (.inr k1) hi, ?_⟩
  rw [Vr_at k2 (.inr k1)]; exact e.symm
theorem trunc_units {m : Nat} {i : Int} (hi : -1074 ≤ i) (s : Bool) : Ieee.Toward.zero.cut s (m <<< i.toNat) (-i).toNat = m * 2 ^ (i + 1074).toNat / 2 ^ eU := by
 have hU := eU_eq
 rw [zcut, Nat.shiftLeft_eq]
 by_cases h : 0 ≤ i
 ·have e1 : (-i).toNat = 0 := by omega
  have e2 : (i + 1074).toNat = i.toNat + eU := by omega
  rw [e1, e2, Nat.pow_add, ← Nat.mul_assoc, Nat.mul_div_cancel _ (Nat.pos_of_ne_zero (by simp))]; simp
 ·have e1 : i.toNat = 0 := by omega
  have e2 : eU = (-i).toNat + (i + 1074).toNat := by omega
  have e3 : m * 2 ^ (i + 1074).toNat / 2 ^ eU = m * 2 ^ (i + 1074).toNat / (2 ^ (-i).toNat * 2 ^ (i + 1074).toNat) := by rw [← Nat.pow_add, ← e2]
  rw [e3, Nat.mul_div_mul_right _ _ (Nat.pos_of_ne_zero (by simp)), e1]; simp
theorem fcan_word {neg : Bool} {w : Nat} (h : w < 9218868437227405312) : fcan (Ieee.double.word neg w) = Ieee.double.word neg w := by
 unfold fcan
 rw [fnan_eq, (word_rung (by omega)).1, decide_eq_false (by omega)]
theorem rung_split {r : Nat} (h : 4503599627370496 ≤ r) : r = (r / 4503599627370496 - 1) * 4503599627370496 + (4503599627370496 + r % 4503599627370496) := by omega
theorem trunc_fin {b : Nat} (h : rung b < 9218868437227405312) : ∃ w, w < 9218868437227405312 ∧ ftrunc b = Ieee.double.word (negB b) w ∧ Vr w = Vr (rung b) / 2 ^ eU * 2 ^ eU := by
 have hU := eU_eq
 obtain ⟨m, i, h1, h2, h3⟩ := read_fin h
 have hft : ftrunc b = fcan (Ieee.double.nearest (negB b) (Vr (rung b) / 2 ^ eU) 0) := by
  unfold ftrunc
  rw [fnan_eq, decide_eq_false (by omega), h1]
  simp only [Ieee.Datum.integral, Ieee.Format.write]
  rw [trunc_units h2, h3]
 rw [hft]
 by_cases hT : Vr (rung b) / 2 ^ eU < 9007199254740992
 ·obtain ⟨w, w1, w2, w3⟩ := nearest_small (negB b) hT
  exact ⟨w, w1, by rw [w2, fcan_word w1], w3⟩
 ·have hr : 4503599627370496 ≤ rung b := by
   apply Nat.le_of_not_lt; intro hh
   have : Vr (rung b) = rung b := by unfold Vr; rw [if_pos hh]
   have h5 := Nat.div_le_self (Vr (rung b)) (2 ^ eU)
   omega
  have hV : Vr (rung b) = (4503599627370496 + rung b % 4503599627370496) * 2 ^ (rung b / 4503599627370496 - 1) := by unfold Vr; rw [if_neg (by omega)]
  have hs := rung_split hr
  generalize rung b / 4503599627370496 - 1 = q at hV hs
  have hK : 4503599627370496 + rung b % 4503599627370496 < 9007199254740992 := by omega
  have hK2 : 4503599627370496 ≤ 4503599627370496 + rung b % 4503599627370496 := by omega
  generalize 4503599627370496 + rung b % 4503599627370496 = K at hV hs hK hK2
  have hq : eU ≤ q := by
   apply Nat.le_of_not_lt; intro hh
   apply hT
   apply Nat.div_lt_of_lt_mul
   rw [hV, Nat.mul_comm (2 ^ eU)]
   calc K * 2 ^ q < 9007199254740992 * 2 ^ q := Nat.mul_lt_mul_of_pos_right hK (Nat.pos_of_ne_zero (by simp))
    _ ≤ 9007199254740992 * 2 ^ eU := Nat.mul_le_mul_left _ (Nat.pow_le_pow_right (by decide) (by omega))
  have hTe : Vr (rung b) / 2 ^ eU * 2 ^ eU = Vr (rung b) := by
   apply Nat.div_mul_cancel
   rw [hV]
   exact Nat.dvd_trans (Nat.pow_dvd_pow 2 hq) (Nat.dvd_mul_left _ _)
  refine ⟨rung b, h, ?_, hTe.symm⟩
  have hT0 : Vr (rung b) / 2 ^ eU ≠ 0 := by omega
  rw [nearest_val (K := K) (q := q) hT0 (by decide) (by rw [show ((0 : Int) + 1074).toNat = eU from rfl, hTe, hV]) hK (.inr hK2) (by omega), ← hs, fcan_word h]
theorem sV_eq {b w : Nat} (hw : w < 9223372036854775808) : sV b = sV (Ieee.double.word (negB b) w) ↔ Vr (rung b) = Vr w := by
 rw [word_sV hw]; unfold sV
 cases negB b <;> simp only [] <;> omega
theorem toInt_fin {b : Nat} (h : rung b < 9218868437227405312) : floatToIntVal .f64 b .i64 = (let n := match negB b with | true => -((Vr (rung b) / 2 ^ eU : Nat) : Int) | false => ((Vr (rung b) / 2 ^ eU : Nat) : Int)
  if -9223372036854775808 ≤ n ∧ n ≤ 9223372036854775807 then some n else none) := by
 obtain ⟨m, i, h1, h2, h3⟩ := read_fin h
 unfold floatToIntVal
 rw [show FloatKind.f64.decode b = Ieee.double.read b from rfl, h1]
 simp only [Ieee.Datum.toInt, Ieee.Datum.integral]
 rw [trunc_units h2, h3, signed_eq]
 simp only [Nat.pow_zero, Nat.mul_one]
 rfl
noncomputable def wholeN (b : Nat) : Int × Bool := match decide (rung b < 9218868437227405312 ∧ Vr (rung b) / 2 ^ eU * 2 ^ eU = Vr (rung b) ∧ (Vr (rung b) / 2 ^ eU < 9223372036854775808 ∨ (negB b = true ∧ Vr (rung b) / 2 ^ eU = 9223372036854775808))) with
 | true => (match negB b with | true => -((Vr (rung b) / 2 ^ eU : Nat) : Int) | false => ((Vr (rung b) / 2 ^ eU : Nat) : Int), true)
 | false => (0, false)
theorem big_rung : rung 14114281232179134464 = 4890909195324358656 ∧ negB 14114281232179134464 = true ∧ rung 4890909195324358656 = 4890909195324358656 ∧ negB 4890909195324358656 = false := by decide
theorem big_V : Vr 4890909195324358656 = 9223372036854775808 * 2 ^ eU := by
 have hU := eU_eq
 have := Vr_at (K := 4503599627370496) (q := eU + 11) (by decide) (.inr (Nat.le_refl _))
 rw [show (eU + 11) * 4503599627370496 + 4503599627370496 = 4890909195324358656 by rw [hU]] at this
 rw [this, Nat.pow_add, Nat.mul_comm (2 ^ eU), ← Nat.mul_assoc]
end Go.Proofs.Ytcjiipbppkdkaaa.Pure
