/- Plain laws of chapter 4: values that may be, floats that are equal as numbers, values that are worth a whole number. -/
import Derived.Test.YtnedfkfelagmpaaP04x
import Derived.Test.YtnedfkfelagmpaaPWord
namespace Go.Proofs.Ytnedfkfelagmpaa.Pure
open Go Go.Proofs.Ytnedfkfelagmpaa.E Go.Proofs.Ytnedfkfelagmpaa.Eng
set_option linter.unusedVariables false
set_option linter.unusedSimpArgs false

abbrev Vlu := Int × Bool × Int × Int × ByteArray × Unit
theorem wf_u64 {n : Int} (h : (Lit.int .u64 n).wf = true) : ∃ m : Nat, n = (m : Int) ∧ m < 18446744073709551616 := by
  unfold Lit.wf at h
  simp only [Bool.and_eq_true, decide_eq_true_eq] at h
  have h1 : 0 ≤ n := h.1
  have h2 : n < 18446744073709551616 := Int.lt_of_le_of_lt h.2 (by decide)
  exact ⟨n.toNat, by omega, by omega⟩
theorem nan_ok (n : Nat) (hn : n < 18446744073709551616) : Runs (fun k => value_nan.f k (n : Int)) ((fnan n, ()), ()) := by
  refine Runs.step (fun k => rfl) (Runs.some' ?_)
  have h2 : (n &&& 9223372036854775807) = rung n := Nat.and_two_pow_sub_one_eq_mod _ 63
  have h3 : rung n < 9223372036854775808 := Nat.mod_lt _ (by decide)
  rw [show (9223372036854775807 : Int) = ((9223372036854775807 : Nat) : Int) from rfl, and_nat _ _ hn (by decide), h2, wrap_u64 (by omega), fnan_eq]
  congr 2
  apply decide_eq_decide.2; omega
theorem lnan_ok (n : Nat) (hn : n < 18446744073709551616) : Runs (fun k => chartularylaw04_nan.f k (n : Int)) ((fnan n, ()), ()) := by
  refine Runs.step (body := fun k => (ck (!decide ((1 : Int) < 0))).bind fun _ => some ((decide ((IntKind.wrap .u64 ((n : Int) * 2 ^ (min (1 : Int).toNat (IntKind.bits .u64))) : Int) > 18437736874454810624), ()), ())) (fun k => rfl) (Runs.ck rfl (Runs.some' ?_))
  have : IntKind.wrap .u64 ((n : Int) * 2 ^ (min (1 : Int).toNat (IntKind.bits .u64))) = ((2 * rung n : Nat) : Int) := by
    rw [show (2 : Int) ^ (min (1 : Int).toNat (IntKind.bits .u64)) = 2 from rfl]
    simp only [IntKind.wrap, IntKind.bits, IntKind.signed, Bool.false_and, rung]
    simp; omega
  rw [this, fnan_eq]
  congr 2
  apply decide_eq_decide.2; omega
noncomputable def cleanV (x : Vlu) : Vlu :=
  bif (x.1 : Int) == 1 then (x.1, x.2.1, 0, 0, ByteArray.empty, ()) else bif (x.1 : Int) == 2 then (x.1, false, x.2.2.1, 0, ByteArray.empty, ()) else
  bif (x.1 : Int) == 3 then (bif fnan x.2.2.2.1.toNat then (x.1, false, 0, 9221120237041090561, ByteArray.empty, ()) else (x.1, false, 0, x.2.2.2.1, ByteArray.empty, ())) else
  bif (x.1 : Int) == 4 then (x.1, false, 0, 0, x.2.2.2.2.1, ()) else (x.1, false, 0, 0, ByteArray.empty, ())
/-- Its bits are a number that they may be. -/
def BOk (x : Vlu) : Prop := ∃ n : Nat, x.2.2.2.1 = (n : Int) ∧ n < 18446744073709551616
theorem clean_ok (x : Vlu) (hx : BOk x) : Runs (fun k => value_Clean.f k x) ((cleanV x, ()), ()) := by
  obtain ⟨n, e, hn⟩ := hx
  refine Runs.step (fun k => rfl) (Runs.cond (fun h1 => ?_) fun h1 => Runs.cond (fun h2 => ?_) fun h2 => Runs.cond (fun h3 => ?_) fun h3 => Runs.cond (fun h4 => ?_) fun h4 => ?_)
  · exact Runs.some' (by unfold cleanV; rw [h1]; rfl)
  · exact Runs.some' (by unfold cleanV; rw [h1, h2]; rfl)
  · refine Runs.bind (by rw [e]; exact nan_ok n hn) (Runs.cond (fun h4 => ?_) fun h4 => ?_)
    · exact Runs.some' (by unfold cleanV; rw [h1, h2, h3, e, Int.toNat_natCast]; dsimp only at h4; rw [h4]; rfl)
    · exact Runs.some' (by unfold cleanV; rw [h1, h2, h3, e, Int.toNat_natCast]; dsimp only at h4; rw [h4]; rfl)
  · exact Runs.some' (by unfold cleanV; rw [h1, h2, h3, h4]; rfl)
  · exact Runs.some' (by unfold cleanV; rw [h1, h2, h3, h4]; rfl)
theorem lclean_ok (x : Vlu) (hx : BOk x) : Runs (fun k => chartularylaw04_clean.f k x) ((cleanV x, ()), ()) := by
  obtain ⟨n, e, hn⟩ := hx
  refine Runs.step (fun k => rfl) (Runs.cond (fun h1 => ?_) fun h1 => Runs.cond (fun h2 => ?_) fun h2 => Runs.cond (fun h3 => ?_) fun h3 => Runs.cond (fun h4 => ?_) fun h4 => ?_)
  · exact Runs.some' (by unfold cleanV; rw [h1, eq_of_beq h1]; rfl)
  · exact Runs.some' (by unfold cleanV; rw [h1, h2, eq_of_beq h2]; rfl)
  · refine Runs.bind (by rw [e]; exact lnan_ok n hn) (Runs.cond (fun h4 => ?_) fun h4 => ?_)
    · exact Runs.some' (by unfold cleanV; rw [h1, h2, h3, e, Int.toNat_natCast, eq_of_beq h3]; dsimp only at h4; rw [h4]; rfl)
    · exact Runs.some' (by unfold cleanV; rw [h1, h2, h3, e, Int.toNat_natCast, eq_of_beq h3]; dsimp only at h4; rw [h4]; rfl)
  · exact Runs.some' (by unfold cleanV; rw [h1, h2, h3, h4, eq_of_beq h4]; rfl)
  · exact Runs.some' (by unfold cleanV; rw [h1, h2, h3, h4]; rfl)
def eqVal (a b : Vlu) : Bool := ((a.1 : Int) == b.1 && (a.2.1 == b.2.1 && ((a.2.2.1 : Int) == b.2.2.1 && ((a.2.2.2.1 : Int) == b.2.2.2.1 && (seqB a.2.2.2.2.1 b.2.2.2.2.1 && true)))))
/-- May a value be? -/
noncomputable def rightV (x : Vlu) : Bool := decide ((x.1 : Int) ≥ 0) && (decide ((x.1 : Int) ≤ 4) && (decide ((x.2.2.2.2.1.size : Int) ≤ 200) && eqVal x (cleanV x)))
theorem right_ok (x : Vlu) (hx : BOk x) : Runs (fun k => value_Right.f k x) ((rightV x, ()), ()) :=
  Runs.step (fun k => rfl) (Runs.and (fun _ => Runs.and (fun _ => Runs.and (fun _ => Runs.bind (clean_ok x hx) Runs.some) Runs.some) Runs.some) Runs.some)
theorem lright_ok (x : Vlu) (hx : BOk x) : Runs (fun k => chartularylaw04_right.f k x) ((rightV x, ()), ()) := by
  have h : Runs (fun k => chartularylaw04_right.f k x) ((decide ((x.1 : Int) ≥ 0) && (decide ((x.1 : Int) ≤ 4) && (eqVal x (cleanV x) && decide ((x.2.2.2.2.1.size : Int) ≤ 200))), ()), ()) :=
    Runs.step (fun k => rfl) (Runs.and (fun _ => Runs.and (fun _ => Runs.bind (lclean_ok x hx) (Runs.and (b := eqVal x (cleanV x)) (fun _ => Runs.some) Runs.some)) Runs.some) Runs.some)
  exact h.vbool (by unfold rightV; rw [Bool.and_comm (eqVal x (cleanV x))])
/-- Is it a float that may be? -/
noncomputable def isF (x : Vlu) : Bool := ((x.1 : Int) == 3) && rightV x
theorem float_ok (x : Vlu) (hx : BOk x) : Runs (fun k => value_Float.f k x) ((match isF x with | true => fcan x.2.2.2.1.toNat | false => 0, isF x, ()), ()) := by
  refine Runs.step (fun k => rfl) (Runs.cond (fun h1 => ?_) fun h1 => Runs.bind (right_ok x hx) (Runs.cond (fun h2 => ?_) fun h2 => ?_))
  · have h1 : ((x.1 : Int) == 3) = false := by simpa using h1
    exact Runs.some' (by unfold isF; rw [h1]; rfl)
  · have h2 : rightV x = false := by simpa using h2
    exact Runs.some' (by unfold isF; rw [h2, Bool.and_false])
  · have h1 : ((x.1 : Int) == 3) = true := by simpa using h1
    have h2 : rightV x = true := by simpa using h2
    have e : isF x = true := by unfold isF; rw [h1, h2]; rfl
    rw [e]
    exact Runs.bind (f := fun k => f64from.f k x.2.2.2.1) (v := ((fcan x.2.2.2.1.toNat, ()), ())) ⟨0, fun _ _ => rfl⟩ Runs.some
noncomputable def worthB (x y : Vlu) : Bool := isF x && (isF y && feq (match isF x with | true => fcan x.2.2.2.1.toNat | false => 0) (match isF y with | true => fcan y.2.2.2.1.toNat | false => 0))
theorem worths_ok (x y : Vlu) (hx : BOk x) (hy : BOk y) : Runs (fun k => value_Worth.f k x y) ((worthB x y, ()), ()) :=
  Runs.step (fun k => rfl) (Runs.bind (float_ok x hx) (Runs.bind (float_ok y hy) (Runs.and (fun _ => Runs.and (fun _ => Runs.some) Runs.some) Runs.some)))
/-- The whole number that a value is worth. -/
noncomputable def wholeV (x : Vlu) : Int × Bool := bif ((x.1 : Int) == 2) && rightV x then (x.2.2.1, true) else bif isF x then wholeN (fcan x.2.2.2.1.toNat) else (0, false)
theorem whole_j0 (x : Vlu) (hx : BOk x) : Runs (fun k => value_Whole.j0 k x.1 x.2.1 x.2.2.1 x.2.2.2.1 x.2.2.2.2.1) (((bif isF x then wholeN (fcan x.2.2.2.1.toNat) else (0, false)).1, (bif isF x then wholeN (fcan x.2.2.2.1.toNat) else (0, false)).2, ()), ()) := by
  refine Runs.step (fun k => rfl) (Runs.bind (float_ok x hx) (Runs.cond (fun h => ?_) fun h => ?_))
  · have h : isF x = false := by simpa using h
    rw [h]; exact Runs.some
  · have h : isF x = true := by simpa using h
    rw [h]; exact whole_run _
theorem whole_ok (x : Vlu) (hx : BOk x) : Runs (fun k => value_Whole.f k x) (((wholeV x).1, (wholeV x).2, ()), ()) := by
  have j := whole_j0 x hx
  refine Runs.step (fun k => rfl) (Runs.cond (fun h1 => Runs.bind (right_ok x hx) (Runs.cond (fun h2 => ?_) fun h2 => ?_)) fun h1 => ?_)
  · exact Runs.some' (by unfold wholeV; dsimp only at h2; rw [h1, h2]; rfl)
  · dsimp only at h2
    exact j.of_eq (by unfold wholeV; rw [h2, Bool.and_false]; rfl)
  · exact j.of_eq (by unfold wholeV; rw [h1, Bool.false_and]; rfl)

/-! ## Floats that are equal as numbers -/
theorem Vr_inj {r s : Nat} (hr : r < 9223372036854775808) (hs : s < 9223372036854775808) (h : Vr r = Vr s) : r = s := by
  have big : ∀ {q : Nat}, 4503599627370496 ≤ q → Vr q = (4503599627370496 + q % 4503599627370496) * 2 ^ (q / 4503599627370496 - 1) ∧ 4503599627370496 ≤ Vr q := by
    intro q hq
    have e : Vr q = (4503599627370496 + q % 4503599627370496) * 2 ^ (q / 4503599627370496 - 1) := by unfold Vr; rw [if_neg (by omega)]
    refine ⟨e, ?_⟩
    rw [e]
    exact Nat.le_trans (Nat.le_add_right _ _) (Nat.le_mul_of_pos_right _ (Nat.pos_of_ne_zero (by simp)))
  have low : ∀ {q : Nat}, q < 4503599627370496 → Vr q = q := fun hq => by unfold Vr; rw [if_pos hq]
  have far : ∀ {q t : Nat}, 4503599627370496 ≤ q → q / 4503599627370496 < t / 4503599627370496 → Vr q < Vr t := by
    intro q t hq hqt
    rw [(big hq).1, (big (q := t) (by omega)).1]
    have h1 : 4503599627370496 + q % 4503599627370496 < 9007199254740992 := by omega
    calc (4503599627370496 + q % 4503599627370496) * 2 ^ (q / 4503599627370496 - 1) < 9007199254740992 * 2 ^ (q / 4503599627370496 - 1) := Nat.mul_lt_mul_of_pos_right h1 (Nat.pos_of_ne_zero (by simp))
      _ = 4503599627370496 * 2 ^ (q / 4503599627370496 - 1 + 1) := by rw [Nat.pow_succ, Nat.mul_comm (2 ^ _) 2, ← Nat.mul_assoc]
      _ ≤ 4503599627370496 * 2 ^ (t / 4503599627370496 - 1) := Nat.mul_le_mul_left _ (Nat.pow_le_pow_right (by decide) (by omega))
      _ ≤ _ := Nat.mul_le_mul_right _ (Nat.le_add_right _ _)
  by_cases h1 : r < 4503599627370496
  · by_cases h2 : s < 4503599627370496
    · rw [low h1, low h2] at h; exact h
    · have := (big (q := s) (by omega)).2
      rw [low h1] at h; omega
  · by_cases h2 : s < 4503599627370496
    · have := (big (q := r) (by omega)).2
      rw [low h2] at h; omega
    · rcases Nat.lt_trichotomy (r / 4503599627370496) (s / 4503599627370496) with h3 | h3 | h3
      · have := far (q := r) (t := s) (by omega) h3; omega
      · rw [(big (q := r) (by omega)).1, (big (q := s) (by omega)).1, h3] at h
        have := Nat.eq_of_mul_eq_mul_right (Nat.pos_of_ne_zero (by simp)) h
        omega
      · have := far (q := s) (t := r) (by omega) h3; omega
theorem V_zero {r : Nat} : Vr r = 0 ↔ r = 0 := ⟨fun h => Classical.byContradiction fun hh => V_pos hh h, fun h => by rw [h]; rfl⟩
theorem rung_neg {n m : Nat} (hn : n < 18446744073709551616) (hm : m < 18446744073709551616) (h1 : rung n = rung m) (h2 : negB n = negB m) : n = m := by
  unfold rung at h1
  unfold negB at h2
  have k1 : n / 9223372036854775808 = 0 ∨ n / 9223372036854775808 = 1 := by omega
  have k2 : m / 9223372036854775808 = 0 ∨ m / 9223372036854775808 = 1 := by omega
  rcases k1 with k1 | k1 <;> rcases k2 with k2 | k2 <;> rw [k1, k2] at h2 <;> first | omega | (cases h2; done)
theorem feq_bits {n m : Nat} (hn : n < 18446744073709551616) (hm : m < 18446744073709551616) (h1 : fnan n = false) (h2 : fnan m = false) : feq n m = decide (n = m ∨ (rung n = 0 ∧ rung m = 0)) := by
  rw [fnan_eq, decide_eq_false_iff_not] at h1 h2
  by_cases i1 : rung n = 9218868437227405312
  · by_cases i2 : rung m = 9218868437227405312
    · have e : feq n m = decide (negB n = negB m) := by
        unfold feq Ieee.Format.order; rw [read_inf i1, read_inf i2]
        cases negB n <;> cases negB m <;> rfl
      rw [e]; apply decide_eq_decide.2
      exact ⟨fun h => .inl (rung_neg hn hm (by rw [i1, i2]) h), fun h => by rcases h with h | h; rw [h]; omega⟩
    · obtain ⟨m1, p1, e1, _, _⟩ := read_fin (b := m) (by omega)
      have e : feq n m = false := by
        unfold feq Ieee.Format.order; rw [read_inf i1, e1]
        cases negB n <;> rfl
      rw [e]; symm; apply decide_eq_false
      rintro (h | h)
      · rw [h] at i1; omega
      · omega
  · by_cases i2 : rung m = 9218868437227405312
    · obtain ⟨m1, p1, e1, _, _⟩ := read_fin (b := n) (by omega)
      have e : feq n m = false := by
        unfold feq Ieee.Format.order; rw [read_inf i2, e1]
        cases negB m <;> rfl
      rw [e]; symm; apply decide_eq_false
      rintro (h | h)
      · rw [h] at i1; omega
      · omega
    · rw [feq_fin (by omega) (by omega)]
      apply decide_eq_decide.2
      have l1 : rung n < 9223372036854775808 := Nat.mod_lt _ (by decide)
      have l2 : rung m < 9223372036854775808 := Nat.mod_lt _ (by decide)
      have z1 := V_zero (r := rung n)
      have z2 := V_zero (r := rung m)
      constructor
      · intro h
        unfold sV at h
        cases hs : negB n <;> cases ht : negB m <;> rw [hs, ht] at h <;> simp only [] at h
        · exact .inl (rung_neg hn hm (Vr_inj l1 l2 (by omega)) (by rw [hs, ht]))
        · exact .inr ⟨z1.1 (by omega), z2.1 (by omega)⟩
        · exact .inr ⟨z1.1 (by omega), z2.1 (by omega)⟩
        · exact .inl (rung_neg hn hm (Vr_inj l1 l2 (by omega)) (by rw [hs, ht]))
      · rintro (h | ⟨h3, h4⟩)
        · rw [h]
        · unfold sV; rw [h3, h4]
          cases negB n <;> cases negB m <;> rfl
end Go.Proofs.Ytnedfkfelagmpaa.Pure
