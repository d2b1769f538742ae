/- ValueFloats: any float's value, by its bits, and that it is it again; for arguments that hold together at most 1048576 values and letters. -/
import Derived.Test.YtnedfkfelagmpaaSValueFloats
import Derived.Test.YtnedfkfelagmpaaQValueB
import Derived.Test.YtnedfkfelagmpaaPValue
namespace Go.Proofs.Ytnedfkfelagmpaa.Pure
open Go.RowKit Go.Proofs.Ytnedfkfelagmpaa.PAll Go.Proofs.YtnedfkfelagmpaaW.PrintWords Go.Proofs.YtnedfkfelagmpaaW.PrintLast Go.Proofs.Ytnedfkfelagmpaa.Q
set_option linter.unusedVariables false
set_option linter.unusedSimpArgs false
/-- A float is itself, if it is a number. -/
theorem order_self (n : Nat) : (FloatKind.f64.format.order n n != some .eq) = decide (n % 9223372036854775808 > 9218868437227405312) := by
  show ((Ieee.double.read n).order (Ieee.double.read n) != some .eq) = _
  unfold Ieee.Format.read
  rw [show Ieee.double.signWeight = 9223372036854775808 from rfl, show Ieee.double.infRung = 9218868437227405312 from rfl, show Ieee.double.binade = 4503599627370496 from rfl]
  dsimp only
  by_cases h1 : n % 9223372036854775808 < 4503599627370496
  · rw [if_pos h1, decide_eq_false (by omega)]
    simp [Ieee.Datum.order, compare, compareOfLessAndEq]
  rw [if_neg h1]
  by_cases h2 : n % 9223372036854775808 < 9218868437227405312
  · rw [if_pos h2, decide_eq_false (by omega)]
    simp [Ieee.Datum.order, compare, compareOfLessAndEq]
  rw [if_neg h2]
  by_cases h3 : n % 9223372036854775808 = 9218868437227405312
  · rw [if_pos h3, decide_eq_false (by omega)]
    simp [Ieee.Datum.order, compare, compareOfLessAndEq]
  rw [if_neg h3, decide_eq_true (by omega)]
  simp [Ieee.Datum.order]
/-- The bits of a float's value. -/
def bitsV (b : Int) : Int := if nanB b = true then 9221120237041090561 else b
theorem bitsV_b (b : Int) (h0 : 0 ≤ b) (h1 : b < 18446744073709551616) : 0 ≤ bitsV b ∧ bitsV b < 18446744073709551616 := by
  unfold bitsV
  split
  · exact ⟨by decide, by decide⟩
  · exact ⟨h0, h1⟩
theorem clean_3 (b : Int) : cleanV 3 false 0 b ⟨#[]⟩ = (3, false, 0, bitsV b, ⟨#[]⟩) := by
  unfold cleanV bitsV
  rw [if_neg (by decide), if_neg (by decide), if_pos rfl]
theorem of_ok (b : Int) (h0 : 0 ≤ b) (h1 : b < 18446744073709551616) : value_Of.f b.toNat = some (cleanV 3 false 0 b ⟨#[]⟩) := by
  obtain ⟨n, rfl⟩ := Int.eq_ofNat_of_zero_le h0
  unfold value_Of.f
  rw [Int.toNat_natCast, order_self, clean_3]
  unfold bitsV nanB
  by_cases h : n % 9223372036854775808 > 9218868437227405312
  · rw [if_pos (decide_eq_true h), if_pos (decide_eq_true (show (n : Int) % 9223372036854775808 > 9218868437227405312 by omega))]
  · rw [if_neg (by simp only [decide_eq_true_eq]; exact h), if_neg (by simp only [decide_eq_true_eq]; omega)]
theorem bits_again (b : Int) : bitsV (bitsV b) = bitsV b := by
  unfold bitsV
  by_cases h : nanB b = true
  · rw [if_pos h, if_pos (by decide)]
  · rw [if_neg h, if_neg h]
theorem right_3 (b : Int) (h0 : 0 ≤ b) (h1 : b < 18446744073709551616) : rightV 3 false 0 (bitsV b) ⟨#[]⟩ = true := by
  unfold rightV
  rw [(sameV_iff ..).2 (show (_ : V5) = cleanV 3 false 0 (bitsV b) ⟨#[]⟩ from by rw [clean_3, bits_again])]
  rfl
theorem float_yes (f : Bool) (n b : Int) (t : ByteArray) (h0 : 0 ≤ b) (h1 : b < 18446744073709551616) (h : rightV 3 f n b t = true) : value_Float.f 3 f n b t = some (b.toNat, true) := by
  unfold value_Float.f
  rw [if_pos rfl, right_ok 3 f n b t h0 h1, bind_some', if_pos h]
theorem float_no (k : Int) (f : Bool) (n b : Int) (t : ByteArray) (h0 : 0 ≤ b) (h1 : b < 18446744073709551616) (h : ¬ (k = 3 ∧ rightV k f n b t = true)) : value_Float.f k f n b t = some (0, false) := by
  unfold value_Float.f
  by_cases hk : k = 3
  · rw [if_pos hk, right_ok k f n b t h0 h1, bind_some', if_neg (fun e => h ⟨hk, e⟩)]
  · rw [if_neg hk]
theorem floats_j1 (q : Nat) (hq : 30 ≤ q) (k : Int) (f : Bool) (n b : Int) (t : ByteArray) (h0 : 0 ≤ b) (h1 : b < 18446744073709551616) : chartularylaw04_ValueFloats.j1 (q + 2) false k f n b t = some true := by
  by_cases hf : k = 3 ∧ rightV k f n b t = true
  · obtain ⟨rfl, hr⟩ := hf
    rw [chartularylaw04_ValueFloats.j1, if_neg (by decide), float_yes f n b t h0 h1 hr, bind_some', law_right_ok 3 f n b t h0 h1, bind_some', if_pos hr, chartularylaw04_ValueFloats.j2, if_neg (by decide)]
    dsimp only
    rw [if_pos rfl, of_ok b h0 h1, bind_some']
    obtain ⟨_, hc⟩ := rightV_cases hr
    have e3 : f = false ∧ n = 0 ∧ t = ⟨#[]⟩ := by
      rcases hc with ⟨e, _⟩ | ⟨e, _⟩ | ⟨e, _⟩ | ⟨_, a, b, c⟩ | ⟨e, _⟩
      · exact absurd e (by decide)
      · exact absurd e (by decide)
      · exact absurd e (by decide)
      · exact ⟨a, b, c⟩
      · exact absurd e (by decide)
    obtain ⟨rfl, rfl, rfl⟩ := e3
    rw [← (rightV_facts hr).2.2.2, if_pos (by exact (sameV_self 3 false 0 b ⟨#[]⟩)), law_awake q (by omega)]
    rfl
  · rw [chartularylaw04_ValueFloats.j1, if_neg (by decide), float_no k f n b t h0 h1 hf, bind_some', law_right_ok k f n b t h0 h1, bind_some']
    dsimp only
    by_cases hr : rightV k f n b t = true
    · rw [if_pos hr, chartularylaw04_ValueFloats.j2, if_pos (bne_iff_ne.2 (fun e => hf ⟨e, hr⟩)), if_pos (show ((0 : Nat) : Int) = 0 from rfl), if_neg (by decide), law_awake q (by omega)]
      rfl
    · rw [if_neg hr, chartularylaw04_ValueFloats.j2, if_pos rfl, if_pos (show ((0 : Nat) : Int) = 0 from rfl), if_neg (by decide), law_awake q (by omega)]
      rfl
theorem floats_j0 (x : Int) (x0 : 0 ≤ x) (x1 : x < 18446744073709551616) (k : Int) (f : Bool) (n b : Int) (t : ByteArray) (h0 : 0 ≤ b) (h1 : b < 18446744073709551616) : chartularylaw04_ValueFloats.j0 53 x k f n b t = some true := by
  have hb := bitsV_b x x0 x1
  have hj : chartularylaw04_ValueFloats.j1 52 false k f n b t = some true := floats_j1 50 (by omega) k f n b t h0 h1
  rw [chartularylaw04_ValueFloats.j0, of_ok x x0 x1, bind_some', clean_3]
  dsimp only
  rw [float_yes false 0 (bitsV x) ⟨#[]⟩ hb.1 hb.2 (right_3 x x0 x1), bind_some']
  dsimp only
  rw [if_pos rfl, law_clean_ok 3 false 0 x ⟨#[]⟩ x0 x1, bind_some', clean_3]
  dsimp only
  rw [if_neg (by simp), law_nan_ok x x0 x1, bind_some', Int.toNat_of_nonneg hb.1]
  by_cases h : nanB x = true
  · have e : bitsV x = 9221120237041090561 := by unfold bitsV; rw [if_pos h]
    rw [if_pos h, bind_some', if_pos h, e, law_nan_ok _ (by decide) (by decide), bind_some', show nanB 9221120237041090561 = true from by decide]
    exact hj
  · have e : bitsV x = x := by unfold bitsV; rw [if_neg h]
    rw [if_neg h, e, if_pos rfl, bind_some', if_neg h]
    exact hj
/-- ValueFloats, in plain numbers. -/
theorem ValueFloats : chartularylaw04_ValueFloats.Pure := by
  intro x v hx hv hb
  refine ⟨53, ?_⟩
  have hw : 0 ≤ v.f3 ∧ v.f3 < 18446744073709551616 := by
    have := hv
    simp only [wf24] at this
    have h := this.2.2.2.1
    simp [Lit.wf, IntKind.min, IntKind.max, IntKind.bits, IntKind.signed] at h
    omega
  have hx2 : 0 ≤ x ∧ x < 18446744073709551616 := by
    simp [Lit.wf, IntKind.min, IntKind.max, IntKind.bits, IntKind.signed] at hx
    omega
  unfold chartularylaw04_ValueFloats.f
  by_cases h : (v.f4.size : Int) > 300
  · rw [if_pos h, if_pos (by decide), if_pos (by omega)]
    exact floats_j0 x hx2.1 hx2.2 _ _ _ _ _ hw.1 hw.2
  · rw [if_neg h]
    exact floats_j0 x hx2.1 hx2.2 _ _ _ _ _ hw.1 hw.2
end Go.Proofs.Ytnedfkfelagmpaa.Pure
