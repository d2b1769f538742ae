/- Plain laws of chapter 4: values that may be, floats that are equal as numbers, values that are worth a whole number. -/
import Derived.Test.YtcjiipbppkdkaaaP04x
import Derived.Test.YtcjiipbppkdkaaaPWord
namespace Go.Proofs.Ytcjiipbppkdkaaa.Pure
open Go Go.Proofs.Ytcjiipbppkdkaaa.E Go.Proofs.Ytcjiipbppkdkaaa.Eng
set_option linter.unusedVariables false
set_option linter.unusedSimpArgs false
abbrev Vlu := Int × Bool × Int × Int × ByteArray × Unit
theorem wf_u64 {n : Int} (h : (Lit.int .u64 n).wf = true) : ∃ m : Nat, n = (m : Int) ∧ m < 18446744073709551616 := by
 unfold Lit.wf at h
 simp only [Bool.and_eq_true, decide_eq_true_eq] at h
 have h1 : 0 ≤ n := h.1
 have h2 : n < 18446744073709551616 := Int.lt_of_le_of_lt h.2 (by decide)
 exact ⟨n.toNat, by omega, by omega⟩
theorem nan_ok (n : Nat) (hn : n < 18446744073709551616) : Runs (fun k => value_nan.f k (n : Int)) ((fnan n, ()), ()) := by
 refine Runs.step (fun k => rfl) (Runs.some' ?_)
 have h2 : (n &&& 9223372036854775807) = rung n := Nat.and_two_pow_sub_one_eq_mod _ 63
 have h3 : rung n < 9223372036854775808 := Nat.mod_lt _ (by decide)
 rw [show (9223372036854775807 : Int) = ((9223372036854775807 : Nat) : Int) from rfl, and_nat _ _ hn (by decide), h2, wrap_u64 (by omega), fnan_eq]
 congr 2
 apply decide_eq_decide.2; omega
noncomputable def cleanV (x : Vlu) : Vlu :=
 bif (x.1 : Int) == 1 then (x.1, x.2.1, 0, 0, ByteArray.empty, ()) else bif (x.1 : Int) == 2 then (x.1, false, x.2.2.1, 0, ByteArray.empty, ()) else
 bif (x.1 : Int) == 3 then (bif fnan x.2.2.2.1.toNat then (x.1, false, 0, 9221120237041090561, ByteArray.empty, ()) else (x.1, false, 0, x.2.2.2.1, ByteArray.empty, ())) else
 bif (x.1 : Int) == 4 then (x.1, false, 0, 0, x.2.2.2.2.1, ()) else (x.1, false, 0, 0, ByteArray.empty, ())
def BOk (x : Vlu) : Prop := ∃ n : Nat, x.2.2.2.1 = (n : Int) ∧ n < 18446744073709551616
theorem clean_ok (x : Vlu) (hx : BOk x) : Runs (fun k => value_Clean.f k x) ((cleanV x, ()), ()) := by
 obtain ⟨n, e, hn⟩ := hx
 refine Runs.step (fun k => rfl) (Runs.cond (fun h1 => ?_) fun h1 => Runs.cond (fun h2 => ?_) fun h2 => Runs.cond (fun h3 => ?_) fun h3 => Runs.cond (fun h4 => ?_) fun h4 => ?_)
 ·exact Runs.some' (by unfold cleanV; rw [h1]; rfl)
 ·exact Runs.some' (by unfold cleanV; rw [h1, h2]; rfl)
 ·refine Runs.bind (by rw [e]; exact nan_ok n hn) (Runs.cond (fun h4 => ?_) fun h4 => ?_)
  ·exact Runs.some' (by unfold cleanV; rw [h1, h2, h3, e, Int.toNat_natCast]; dsimp only at h4; rw [h4]; rfl)
  ·exact Runs.some' (by unfold cleanV; rw [h1, h2, h3, e, Int.toNat_natCast]; dsimp only at h4; rw [h4]; rfl)
 ·exact Runs.some' (by unfold cleanV; rw [h1, h2, h3, h4]; rfl)
 ·exact Runs.some' (by unfold cleanV; rw [h1, h2, h3, h4]; rfl)
def eqVal (a b : Vlu) : Bool := ((a.1 : Int) == b.1 && (a.2.1 == b.2.1 && ((a.2.2.1 : Int) == b.2.2.1 && ((a.2.2.2.1 : Int) == b.2.2.2.1 && (seqB a.2.2.2.2.1 b.2.2.2.2.1 && true)))))
noncomputable def rightV (x : Vlu) : Bool := decide ((x.1 : Int) ≥ 0) && (decide ((x.1 : Int) ≤ 4) && (decide ((x.2.2.2.2.1.size : Int) ≤ 200) && eqVal x (cleanV x)))
theorem right_ok (x : Vlu) (hx : BOk x) : Runs (fun k => value_Right.f k x) ((rightV x, ()), ()) :=
 Runs.step (fun k => rfl) (Runs.and (fun _ => Runs.and (fun _ => Runs.and (fun _ => Runs.bind (clean_ok x hx) Runs.some) Runs.some) Runs.some) Runs.some)
noncomputable def isF (x : Vlu) : Bool := ((x.1 : Int) == 3) && rightV x
theorem float_ok (x : Vlu) (hx : BOk x) : Runs (fun k => value_Float.f k x) ((match isF x with | true => fcan x.2.2.2.1.toNat | false => 0, isF x, ()), ()) := by
 refine Runs.step (fun k => rfl) (Runs.cond (fun h1 => ?_) fun h1 => Runs.bind (right_ok x hx) (Runs.cond (fun h2 => ?_) fun h2 => ?_))
 ·have h1 : ((x.1 : Int) == 3) = false := by simpa using h1
  exact Runs.some' (by unfold isF; rw [h1]; rfl)
 ·have h2 : rightV x = false := by simpa using h2
  exact Runs.some' (by unfold isF; rw [h2, Bool.and_false])
 ·have h1 : ((x.1 : Int) == 3) = true := by simpa using h1
  have h2 : rightV x = true := by simpa using h2
  have e : isF x = true := by unfold isF; rw [h1, h2]; rfl
  rw [e]
  exact Runs.bind (f := fun k => f64from.f k x.2.2.2.1) (v := ((fcan x.2.2.2.1.toNat, ()), ())) ⟨0, fun _ _ => rfl⟩ Runs.some
noncomputable def worthB (x y : Vlu) : Bool := isF x && (isF y && feq (match isF x with | true => fcan x.2.2.2.1.toNat | false => 0) (match isF y with | true => fcan y.2.2.2.1.toNat | false => 0))
noncomputable def wholeV (x : Vlu) : Int × Bool := bif ((x.1 : Int) == 2) && rightV x then (x.2.2.1, true) else bif isF x then wholeN (fcan x.2.2.2.1.toNat) else (0, false)
theorem whole_j0 (x : Vlu) (hx : BOk x) : Runs (fun k => value_Whole.j0 k x.1 x.2.1 x.2.2.1 x.2.2.2.1 x.2.2.2.2.1) (((bif isF x then wholeN (fcan x.2.2.2.1.toNat) else (0, false)).1, (bif isF x then wholeN (fcan x.2.2.2.1.toNat) else (0, false)).2, ()), ()) := by
 refine Runs.step (fun k => rfl) (Runs.bind (float_ok x hx) (Runs.cond (fun h => ?_) fun h => ?_))
 ·have h : isF x = false := by simpa using h
  rw [h]; exact Runs.some
 ·have h : isF x = true := by simpa using h
  rw [h]; exact whole_run _
theorem whole_ok (x : Vlu) (hx : BOk x) : Runs (fun k => value_Whole.f k x) (((wholeV x).1, (wholeV x).2, ()), ()) := by
 have j := whole_j0 x hx
 refine Runs.step (fun k => rfl) (Runs.cond (fun h1 => Runs.bind (right_ok x hx) (Runs.cond (fun h2 => ?_) fun h2 => ?_)) fun h1 => ?_)
 ·exact Runs.some' (by unfold wholeV; dsimp only at h2; rw [h1, h2]; rfl)
 ·dsimp only at h2
  exact j.of_eq (by unfold wholeV; rw [h2, Bool.and_false]; rfl)
 ·exact j.of_eq (by unfold wholeV; rw [h1, Bool.false_and]; rfl)
/-! ## Floats that are equal as numbers -/
end Go.Proofs.Ytcjiipbppkdkaaa.Pure
