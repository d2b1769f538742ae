/- Plain laws of chapter 4: which whole number a float is worth: by the program and by the document. -/
import Derived.Test.YtcjiipbppkdkaaaPFlo
import Derived.Test.YtcjiipbppkdkaaaPComb
namespace Go.Proofs.Ytcjiipbppkdkaaa.Pure
open Go Go.Proofs.Ytcjiipbppkdkaaa.E Go.Proofs.Ytcjiipbppkdkaaa.Eng
set_option linter.unusedVariables false
set_option linter.unusedSimpArgs false
theorem U_pos : 0 < 2 ^ eU := Nat.pos_of_ne_zero (by simp)
theorem trunc_ok (a : Nat) : Runs (fun k => math_Trunc.f k a) ((ftrunc a, ()), ()) := Runs.step (body := fun k => (f64trunc.f k a).bind fun r1 => some ((r1.1.1, ()), ())) (fun k => rfl) (Runs.bind (f := fun k => f64trunc.f k a) (v := ((ftrunc a, ()), ())) ⟨0, fun _ _ => rfl⟩ Runs.some)
theorem wholeN_no {a : Nat} (h : ¬ (rung a < 9218868437227405312 ∧ Vr (rung a) / 2 ^ eU * 2 ^ eU = Vr (rung a) ∧ (Vr (rung a) / 2 ^ eU < 9223372036854775808 ∨ (negB a = true ∧ Vr (rung a) / 2 ^ eU = 9223372036854775808)))) : wholeN a = (0, false) := by
 unfold wholeN; rw [decide_eq_false h]
theorem whole_run (a : Nat) : Runs (fun k => bif flt' a 14114281232179134464 then some ((0, false, ()), (())) else bif fgt a 4890909195324358656 || feq a 4890909195324358656 then some ((0, false, ()), (())) else
  (math_Trunc.f k a).bind fun r3 => bif !feq a r3.1.1 then some ((0, false, ()), (())) else (floatToIntVal .f64 a .i64).bind fun t4 => some ((t4, true, ()), (()))) (((wholeN a).1, (wholeN a).2, ()), ()) := by
 obtain ⟨g1, g2, g3, g4⟩ := big_rung
 by_cases hn : fnan a = true
 ·have o1 := (order_nan hn 14114281232179134464).1
  have o2 := (order_nan hn 4890909195324358656).1
  have o3 := (order_nan hn (ftrunc a)).1
  rw [wholeN_no (by rw [fnan_eq, decide_eq_true_eq] at hn; omega)]
  refine Runs.no (by unfold flt'; rw [o1]; rfl) (Runs.no (by unfold fgt feq; rw [o2]; rfl) (Runs.bind (trunc_ok a) (Runs.yes (by unfold feq; rw [o3]; rfl) Runs.some)))
 ·have hr : rung a ≤ 9218868437227405312 := by
   rw [fnan_eq, decide_eq_true_eq] at hn; omega
  by_cases hi : rung a = 9218868437227405312
  ·rw [wholeN_no (by omega)]
   obtain ⟨m1, p1, e1, _, _⟩ := read_fin (b := 14114281232179134464) (by rw [g1]; decide)
   obtain ⟨m2, p2, e2, _, _⟩ := read_fin (b := 4890909195324358656) (by rw [g3]; decide)
   have e0 := read_inf hi
   cases hs : negB a with
   | true => exact Runs.yes (by unfold flt' Ieee.Format.order; rw [e0, e1, hs]; rfl) Runs.some
   | false => exact Runs.no (by unfold flt' Ieee.Format.order; rw [e0, e1, hs]; rfl) (Runs.yes (by unfold fgt Ieee.Format.order; rw [e0, e2, hs]; rfl) Runs.some)
  ·have hf : rung a < 9218868437227405312 := by omega
   have c1 : sV 14114281232179134464 = -((9223372036854775808 * 2 ^ eU : Nat) : Int) := by unfold sV; rw [g2, g1, big_V]
   have c2 : sV 4890909195324358656 = ((9223372036854775808 * 2 ^ eU : Nat) : Int) := by unfold sV; rw [g4, g3, big_V]
   have hU := U_pos
   have hTU : Vr (rung a) / 2 ^ eU * 2 ^ eU ≤ Vr (rung a) := Nat.div_mul_le_self _ _
   have hlt : ∀ n, Vr (rung a) < n * 2 ^ eU → Vr (rung a) / 2 ^ eU < n := fun n h => Nat.div_lt_of_lt_mul (by rw [Nat.mul_comm]; exact h)
   have hge : ∀ n, n * 2 ^ eU ≤ Vr (rung a) → n ≤ Vr (rung a) / 2 ^ eU := fun n h => (Nat.le_div_iff_mul_le hU).2 h
   have hle : Vr (rung a) ≤ 9223372036854775808 * 2 ^ eU → Vr (rung a) / 2 ^ eU ≤ 9223372036854775808 := fun h => by
    rw [← Nat.mul_div_cancel 9223372036854775808 hU]; exact Nat.div_le_div_right h
   have hgt : 9223372036854775808 * 2 ^ eU < Vr (rung a) → Vr (rung a) / 2 ^ eU * 2 ^ eU = Vr (rung a) → 9223372036854775808 < Vr (rung a) / 2 ^ eU := fun h h2 => by
    rw [← h2] at h; exact Nat.lt_of_mul_lt_mul_right h
   have hs : sV a = match negB a with | true => -(Vr (rung a) : Int) | false => (Vr (rung a) : Int) := rfl
   obtain ⟨w, w1, w2, w3⟩ := trunc_fin hf
   have hfe : feq a (ftrunc a) = decide (Vr (rung a) / 2 ^ eU * 2 ^ eU = Vr (rung a)) := by
    rw [w2, feq_fin hf (by rw [(word_rung (by omega)).1]; exact w1)]
    apply decide_eq_decide.2
    rw [sV_eq (by omega), w3]
    exact eq_comm
   have hti := toInt_fin hf
   generalize hV : Vr (rung a) = V at *
   generalize hTT : V / 2 ^ eU = T at *
   rw [flt_fin hf (by rw [g1]; decide), fgt_fin hf (by rw [g3]; decide), feq_fin hf (by rw [g3]; decide), c1, c2]
   generalize hX : 9223372036854775808 * 2 ^ eU = X at *
   have hXp : 0 < X := by rw [← hX]; exact Nat.mul_pos (by decide) hU
   refine Runs.dec (fun h => ?_) fun h => ?_
   ·rw [wholeN_no]; exact Runs.some
    rintro ⟨_, k1, k2⟩
    rw [hV, hTT] at k1 k2
    cases hneg : negB a with
    | false => rw [hneg] at hs; simp only [] at hs; omega
    | true =>
     rw [hneg] at hs; simp only [] at hs
     have := hgt (by omega) k1
     rcases k2 with k2 | ⟨_, k2⟩ <;> omega
   ·refine Runs.cond (fun h2 => ?_) fun h2 => ?_
    ·rw [wholeN_no]; exact Runs.some
     rintro ⟨_, k1, k2⟩
     rw [hV, hTT] at k2
     rw [Bool.or_eq_true, decide_eq_true_eq, decide_eq_true_eq] at h2
     cases hneg : negB a with
     | true => rw [hneg] at hs; simp only [] at hs; omega
     | false =>
      rw [hneg] at hs; simp only [] at hs
      have h3 := hge 9223372036854775808 (by omega)
      rcases k2 with k2 | ⟨k2, _⟩
      ·omega
      ·rw [hneg] at k2; cases k2
    ·rw [Bool.or_eq_false_iff, decide_eq_false_iff_not, decide_eq_false_iff_not] at h2
     refine Runs.bind (trunc_ok a) ?_
     simp only [hfe]
     refine Runs.cond (fun h3 => ?_) fun h3 => ?_
     ·rw [wholeN_no]; exact Runs.some
      rintro ⟨_, k1, k2⟩
      rw [hV, hTT] at k1
      rw [decide_eq_true k1] at h3; cases h3
     ·have h3 : T * 2 ^ eU = V := by
       rw [Bool.not_eq_false', decide_eq_true_eq] at h3; exact h3
      have hcond : T < 9223372036854775808 ∨ (negB a = true ∧ T = 9223372036854775808) := by
       cases hneg : negB a with
       | true =>
        rw [hneg] at hs; simp only [] at hs
        rcases Nat.lt_or_eq_of_le (hle (by omega)) with h4 | h4
        ·exact .inl h4
        ·exact .inr ⟨rfl, h4⟩
       | false =>
        rw [hneg] at hs; simp only [] at hs
        refine .inl (hlt 9223372036854775808 ?_)
        rw [hX]
        have h4 := h2.2
        rw [hs] at h4
        have h5 : V ≠ X := fun e => h4 (by rw [e])
        have h6 := h2.1
        omega
      have hw : wholeN a = (match negB a with | true => -(T : Int) | false => (T : Int), true) := by
       unfold wholeN; rw [hV, hTT, decide_eq_true ⟨hf, h3, hcond⟩]; rfl
      rw [hw]
      refine Runs.opt (v := match negB a with | true => -(T : Int) | false => (T : Int)) ?_ Runs.some
      rw [hti]
      cases hneg : negB a with
      | true =>
       simp only []
       rw [if_pos]
       rcases hcond with h | ⟨_, h⟩ <;> omega
      | false =>
       simp only []
       rw [if_pos]
       rcases hcond with h | ⟨h, _⟩
       ·omega
       ·rw [hneg] at h; cases h
end Go.Proofs.Ytcjiipbppkdkaaa.Pure
