/- Plain laws: sums of floats: what is no number, what is infinite, zeros, few digits. -/
import Derived.Test.YtcjiipbppkdkaaaPFlo2
import Derived.KernelRfl
namespace Go.Proofs.Ytcjiipbppkdkaaa.Pure
open Go Go.Proofs.Ytcjiipbppkdkaaa.Eng
set_option linter.unusedVariables false
set_option linter.unusedSimpArgs false

abbrev quietN : Nat := 9221120237041090561
abbrev pinf : Nat := 9218868437227405312
abbrev ninf : Nat := 18442240474082181120
theorem pinf_r : rung pinf = 9218868437227405312 ∧ negB pinf = false := by decide
theorem ninf_r : rung ninf = 9218868437227405312 ∧ negB ninf = true := by decide
def infW : Bool → Nat
  | true => ninf
  | false => pinf
theorem word_inf (s : Bool) : fcan (Ieee.double.word s Ieee.double.infRung) = infW s := by cases s <;> decide
theorem fcan_inf : fcan pinf = pinf ∧ fcan ninf = ninf := by decide
theorem fadd_nan {x : Nat} (h : fnan x = true) (y : Nat) : fadd x y = quietN ∧ fadd y x = quietN := by
  have hn := nan_read h
  obtain ⟨h1, h2, _⟩ := nan_sum hn (Ieee.double.read y)
  unfold fadd Ieee.Format.add
  rw [h1, h2]; exact ⟨rfl, rfl⟩
theorem fdiv_nan {x : Nat} (h : fnan x = true) (y : Nat) : fdiv x y = quietN := by
  have hn := nan_read h
  obtain ⟨h1, h2⟩ := nan_quotient hn (Ieee.double.fractionBits + 2) (Ieee.double.read y)
  unfold fdiv Ieee.Format.div
  rw [h1]; rfl
theorem three (t : Nat) : fnan t = true ∨ rung t = 9218868437227405312 ∨ rung t < 9218868437227405312 := by
  by_cases h : fnan t = true
  · exact .inl h
  · rw [fnan_eq, decide_eq_true_eq] at h; omega
/-- An infinity and anything. -/
theorem fadd_inf (s : Bool) {x : Nat} (hx : rung x = 9218868437227405312) (hs : negB x = s) (t : Nat) : (fadd x t = infW s ∨ fadd x t = quietN) ∧ (fadd t x = infW s ∨ fadd t x = quietN) := by
  rcases three t with h | h | h
  · exact ⟨.inr (fadd_nan h x).2, .inr (fadd_nan h x).1⟩
  · unfold fadd Ieee.Format.add
    rw [read_inf hx, read_inf h, hs]
    cases s <;> cases negB t
    · exact ⟨.inl (by decide), .inl (by decide)⟩
    · exact ⟨.inr rfl, .inr rfl⟩
    · exact ⟨.inr rfl, .inr rfl⟩
    · exact ⟨.inl (by decide), .inl (by decide)⟩
  · obtain ⟨m, p, e, _, _⟩ := read_fin h
    unfold fadd Ieee.Format.add
    rw [read_inf hx, e, hs]
    exact ⟨.inl (word_inf s), .inl (word_inf s)⟩
theorem pinf_fin {t : Nat} (h : rung t < 9218868437227405312) : fadd pinf t = pinf ∧ fadd t pinf = pinf := by
  obtain ⟨m, p, e, _, _⟩ := read_fin h
  unfold fadd Ieee.Format.add
  rw [read_inf pinf_r.1, e, pinf_r.2]
  exact ⟨word_inf false, word_inf false⟩
theorem pinf_pinf : fadd pinf pinf = pinf := by
  unfold fadd Ieee.Format.add
  rw [read_inf pinf_r.1, pinf_r.2]
  exact word_inf false
/-- What a sum of two numbers comes to. -/
theorem fadd_fin {x y : Nat} (hx : rung x < 9218868437227405312) (hy : rung y < 9218868437227405312) : ∃ (s : Bool) (mag : Nat) (p : Int), -1074 ≤ p ∧ ((mag * 2 ^ (p + 1074).toNat : Nat) : Int) = (sV x + sV y).natAbs ∧ fadd x y = fcan (Ieee.double.nearest s mag p) ∧ s = (if sV x + sV y = 0 then negB x && negB y else decide (sV x + sV y < 0)) := by
  obtain ⟨m, i, h1, h2, h3⟩ := read_fin hx
  obtain ⟨n, j, k1, k2, k3⟩ := read_fin hy
  have e1 : sV x = Ieee.signed (negB x) m (i + 1074).toNat := by rw [signed_eq, h3]; unfold sV; cases negB x <;> rfl
  have e2 : sV y = Ieee.signed (negB y) n (j + 1074).toNat := by rw [signed_eq, k3]; unfold sV; cases negB y <;> rfl
  have f1 : (i + 1074).toNat = (i - min i j).toNat + (min i j + 1074).toNat := by omega
  have f2 : (j + 1074).toNat = (j - min i j).toNat + (min i j + 1074).toNat := by omega
  rw [f1, signed_scale] at e1
  rw [f2, signed_scale] at e2
  have e3 : sV x + sV y = (Ieee.signed (negB x) m (i - min i j).toNat + Ieee.signed (negB y) n (j - min i j).toNat) * ((2 ^ (min i j + 1074).toNat : Nat) : Int) := by rw [e1, e2, Int.add_mul]
  generalize hT : Ieee.signed (negB x) m (i - min i j).toNat + Ieee.signed (negB y) n (j - min i j).toNat = T at e3
  refine ⟨if T = 0 then negB x && negB y else decide (T < 0), T.natAbs, min i j, by omega, ?_, ?_, ?_⟩
  · rw [e3, Int.natAbs_mul, Int.natAbs_natCast]
  · unfold fadd Ieee.Format.add
    rw [h1, k1]
    simp only [Ieee.Datum.sum]
    rw [hT]; rfl
  · have hc : (0 : Int) < ((2 ^ (min i j + 1074).toNat : Nat) : Int) := by have := pow0 (min i j + 1074).toNat; omega
    rw [e3]
    by_cases h0 : T = 0
    · rw [if_pos h0, if_pos (by rw [h0, Int.zero_mul])]
    · rw [if_neg h0, if_neg (fun h => by rcases Int.mul_eq_zero.1 h with h | h <;> omega)]
      apply decide_eq_decide.2
      constructor
      · intro h; exact Int.mul_neg_of_neg_of_pos h hc
      · intro h; exact Int.lt_of_not_ge fun h2 => by have := Int.mul_nonneg h2 (Int.le_of_lt hc); omega
theorem word_of {t : Nat} (h : t < 18446744073709551616) : Ieee.double.word (negB t) (rung t) = t := by
  have h1 := Nat.div_add_mod t 9223372036854775808
  unfold Ieee.Format.word negB rung; rw [d_sw]
  have h2 : t / 9223372036854775808 = 0 ∨ t / 9223372036854775808 = 1 := by omega
  rcases h2 with h2 | h2
  · rw [h2]; simp; omega
  · rw [h2]; simp; omega
theorem sV_abs (b : Nat) : (sV b).natAbs = Vr (rung b) := by unfold sV; cases negB b <;> simp
/-- Nothing and a number. -/
theorem fadd_zero {t : Nat} (h64 : t < 18446744073709551616) (h : rung t < 9218868437227405312) (h0 : rung t ≠ 0) : fadd 0 t = t := by
  obtain ⟨s, mag, p, hp, e1, e2, e3⟩ := fadd_fin (x := 0) (y := t) (by decide) h
  have z : sV 0 = 0 := by decide
  rw [z, Int.zero_add] at e1 e3
  rw [sV_abs] at e1
  have e1 : mag * 2 ^ (p + 1074).toNat = Vr (rung t) := by exact Int.ofNat.inj e1
  obtain ⟨K, q, g1, g2, g3, g4⟩ := rung_KQ (rung t) h
  have hV : Vr (rung t) ≠ 0 := fun hh => h0 (by
    have : Vr 0 < Vr (rung t) := Vr_lt (Nat.pos_of_ne_zero h0)
    rw [hh] at this; omega)
  have hm : mag ≠ 0 := fun hh => hV (by rw [← e1, hh, Nat.zero_mul])
  have hs : s = negB t := by
    have hv : sV t = match negB t with | true => -(Vr (rung t) : Int) | false => (Vr (rung t) : Int) := rfl
    rw [if_neg (by cases hb : negB t <;> rw [hb] at hv <;> simp only [] at hv <;> omega)] at e3
    rw [e3]
    cases hb : negB t <;> rw [hb] at hv <;> simp only [] at hv
    · apply decide_eq_false; omega
    · apply decide_eq_true; omega
  rw [e2, nearest_at (K := K) (q := q) (u := (p + 1074).toNat) (v := 0) hm (by omega) (.inr rfl) (by rw [e1, g4, Nat.add_zero]) g2 g3 (by omega), ← g1, fcan_word h, hs, word_of h64]
theorem fadd_zeros {t : Nat} (h : rung t = 0) : fadd 0 t = 0 := by
  obtain ⟨s, mag, p, hp, e1, e2, e3⟩ := fadd_fin (x := 0) (y := t) (by decide) (by omega)
  have z : sV 0 = 0 := by decide
  have z2 : sV t = 0 := by unfold sV; rw [h]; cases negB t <;> rfl
  rw [z, z2] at e1 e3
  have e1 : mag * 2 ^ (p + 1074).toNat = 0 := by exact Int.ofNat.inj e1
  have hm : mag = 0 := by
    rcases Nat.mul_eq_zero.1 e1 with h | h
    · exact h
    · have := pow0 (p + 1074).toNat; omega
  rw [e2, e3, hm]; rfl
/-- Numbers that are not too great. -/
theorem fadd_le {x y : Nat} {q : Nat} (hx : rung x < 9218868437227405312) (hy : rung y < 9218868437227405312) (h : Vr (rung x) + Vr (rung y) ≤ 2 ^ (52 + q)) (hq : (q + 1) * 4503599627370496 < 9218868437227405312) : rung (fadd x y) < 9218868437227405312 ∧ Vr (rung (fadd x y)) ≤ 2 ^ (52 + q) := by
  obtain ⟨s, mag, p, hp, e1, e2, e3⟩ := fadd_fin hx hy
  have e1 : mag * 2 ^ (p + 1074).toNat = (sV x + sV y).natAbs := Int.ofNat.inj e1
  have h2 : (sV x + sV y).natAbs ≤ Vr (rung x) + Vr (rung y) := by
    rw [← sV_abs x, ← sV_abs y]; exact Int.natAbs_add_le _ _
  obtain ⟨w, w1, w2, w3⟩ := nearest_le (neg := s) (q := q) hp (by rw [e1]; exact Nat.le_trans h2 h) hq
  rw [e2, w2, fcan_word w1, (word_rung (by omega)).1]
  exact ⟨w1, w3⟩
theorem fofi_pos {n : Nat} (h0 : n ≠ 0) (h : n < 9007199254740992) : ∃ m p, Ieee.double.read (fofi (n : Int)) = .number false m p ∧ m ≠ 0 := by
  obtain ⟨w, w1, w2, w3⟩ := nearest_small false h
  have e : fofi (n : Int) = Ieee.double.word false w := by
    unfold fofi
    rw [show FloatKind.f64.nearest (n : Int) = Ieee.double.nearest (decide ((n : Int) < 0)) n 0 from rfl, decide_eq_false (by omega), w2, fcan_word w1]
  obtain ⟨m, p, e1, e2, e3⟩ := read_fin (b := Ieee.double.word false w) (by rw [(word_rung (by omega)).1]; exact w1)
  rw [(word_rung (by omega)).1] at e3
  rw [(word_rung (by omega)).2] at e1
  refine ⟨m, p, by rw [e]; exact e1, fun hm => ?_⟩
  rw [hm, Nat.zero_mul, w3] at e3
  have := Nat.mul_pos (Nat.pos_of_ne_zero h0) (pow0 eU)
  omega
theorem fdiv_pinf {n : Nat} (h0 : n ≠ 0) (h : n < 9007199254740992) : fdiv pinf (fofi (n : Int)) = pinf := by
  obtain ⟨m, p, e, _⟩ := fofi_pos h0 h
  unfold fdiv Ieee.Format.div
  rw [read_inf pinf_r.1, e, pinf_r.2]
  exact word_inf false
theorem fdiv_zero {n : Nat} (h0 : n ≠ 0) (h : n < 9007199254740992) : fdiv 0 (fofi (n : Int)) = 0 := by
  obtain ⟨m, p, e, hm⟩ := fofi_pos h0 h
  unfold fdiv Ieee.Format.div
  rw [show Ieee.double.read 0 = .number false 0 (-1074) by decide, e]
  simp only [Ieee.Datum.quotient]
  rw [if_neg hm]
  simp only [Nat.zero_shiftLeft, Nat.zero_div, Nat.zero_mod]
  rfl
theorem fdiv_one {t : Nat} (h64 : t < 18446744073709551616) (h : rung t < 9218868437227405312) (h0 : rung t ≠ 0) : fdiv t (fofi 1) = t := by
  have e1 : fofi 1 = 4607182418800017408 := by kernel_rfl
  obtain ⟨m, i, h1, h2, h3⟩ := read_fin h
  obtain ⟨K, q, g1, g2, g3, g4⟩ := rung_KQ (rung t) h
  have hV : Vr (rung t) ≠ 0 := fun hh => h0 (by
    have : Vr 0 < Vr (rung t) := Vr_lt (Nat.pos_of_ne_zero h0)
    rw [hh] at this; omega)
  have hm : m ≠ 0 := fun hh => hV (by rw [← h3, hh, Nat.zero_mul])
  have hm53 : m < 2 ^ 53 := by
    have hr := h1
    unfold Ieee.Format.read at hr
    simp only [d_sw, d_bi, d_inf, d_lp] at hr
    rw [show (2 ^ 53 : Nat) = 9007199254740992 by decide]
    split at hr
    · injection hr with _ hr _; omega
    · split at hr
      · injection hr with _ hr _; omega
      · split at hr <;> cases hr
  have hl : m.log2 < 53 := by
    rw [← Nat.pow_lt_pow_iff_right (a := 2) (by decide)]
    exact Nat.lt_of_le_of_lt (Nat.log2_self_le hm) hm53
  rw [e1]
  unfold fdiv Ieee.Format.div
  rw [h1, show Ieee.double.read 4607182418800017408 = .number false 4503599627370496 (-52) by decide]
  simp only [Ieee.Datum.quotient]
  rw [if_neg (by decide)]
  have hlog : Nat.log2 4503599627370496 = 52 := by decide
  simp only [d_fb, hlog]
  have hmore : 52 + 2 + 52 - m.log2 = (54 - m.log2) + 52 := by omega
  rw [hmore, Nat.shiftLeft_eq, Nat.pow_add, ← Nat.mul_assoc, ← p52, Nat.mul_div_cancel _ (by decide), Nat.mul_mod_left]
  simp only [Option.map_some, Ieee.Format.write, fres]
  have hx : (negB t ^^ false) = negB t := by cases negB t <;> rfl
  have h00 : ((0 : Nat) != 0).toNat = 0 := rfl
  rw [hx, h00, Nat.add_zero]
  have hmag : 2 * (m * 2 ^ (54 - m.log2)) = m * 2 ^ (55 - m.log2) := by
    rw [show 55 - m.log2 = (54 - m.log2) + 1 by omega, Nat.pow_succ]
    rw [Nat.mul_comm 2, Nat.mul_assoc]
  rw [hmag]
  have hne : m * 2 ^ (55 - m.log2) ≠ 0 := Nat.mul_ne_zero hm (by have := pow0 (55 - m.log2); omega)
  have hnear : Ieee.double.nearest (negB t) (m * 2 ^ (55 - m.log2)) (i - -52 - ((54 - m.log2 + 52 : Nat) : Int) - 1) = Ieee.double.word (negB t) (q * 4503599627370496 + K) := by
    by_cases hc : (55 - m.log2 : Nat) ≤ (i + 1074).toNat
    · refine nearest_at (K := K) (q := q) (u := (i + 1074).toNat - (55 - m.log2)) (v := 0) hne (by omega) (.inr rfl) ?_ g2 g3 (by omega)
      rw [Nat.mul_assoc, ← Nat.pow_add, show 55 - m.log2 + ((i + 1074).toNat - (55 - m.log2)) = (i + 1074).toNat by omega, h3, g4, Nat.add_zero]
    · refine nearest_at (K := K) (q := q) (u := 0) (v := (55 - m.log2) - (i + 1074).toNat) hne (by omega) (.inl rfl) ?_ g2 g3 (by omega)
      rw [Nat.pow_zero, Nat.mul_one, Nat.pow_add, ← Nat.mul_assoc, ← g4, ← h3, Nat.mul_assoc, ← Nat.pow_add, show (i + 1074).toNat + (55 - m.log2 - (i + 1074).toNat) = 55 - m.log2 by omega]
  have hcast : ((54 - m.log2 + 52 : Nat) : Int) = ((54 - m.log2 + 52 : Nat) : Int) := rfl
  rw [hnear, ← g1, fcan_word h, word_of h64]
end Go.Proofs.Ytcjiipbppkdkaaa.Pure
