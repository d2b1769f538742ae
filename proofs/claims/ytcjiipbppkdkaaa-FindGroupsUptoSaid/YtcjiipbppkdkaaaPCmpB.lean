/- Plain laws: texts in order. -/
import Derived.Test.YtcjiipbppkdkaaaPSort
namespace Go.Proofs.Ytcjiipbppkdkaaa.Pure
open Go Go.Proofs.Ytcjiipbppkdkaaa.E Go.Proofs.Ytcjiipbppkdkaaa.Eng
set_option linter.unusedVariables false
set_option linter.unusedSimpArgs false
def cbV (a b : ByteArray) : Int := Lib.compareBytes a.data.toList b.data.toList
theorem cb_neg : ∀ x y : List UInt8, Lib.compareBytes y x = - Lib.compareBytes x y
 | [], [] => rfl
 | [], _ :: _ => rfl
 | _ :: _, [] => rfl
 | a :: x, b :: y => by
  rw [Lib.compareBytes, Lib.compareBytes]
  have ih := cb_neg x y
  by_cases h : a < b
  ·rw [if_neg (show ¬ b < a from by rw [UInt8.lt_iff_toNat_lt] at h ⊢; omega), if_pos h, if_pos h]; rfl
  ·by_cases h2 : b < a
   ·rw [if_pos h2, if_neg h, if_pos h2]
   ·rw [if_neg h2, if_neg h, if_neg h, if_neg h2]; exact ih
theorem cb_zero : ∀ x y : List UInt8, Lib.compareBytes x y = 0 ↔ x = y
 | [], [] => by simp [Lib.compareBytes]
 | [], _ :: _ => by simp [Lib.compareBytes]
 | _ :: _, [] => by simp [Lib.compareBytes]
 | a :: x, b :: y => by
  rw [Lib.compareBytes]
  have ih := cb_zero x y
  by_cases h : a < b
  ·rw [if_pos h]
   refine ⟨fun e => absurd e (by decide), fun e => ?_⟩
   rw [(List.cons.inj e).1, UInt8.lt_iff_toNat_lt] at h; omega
  ·by_cases h2 : b < a
   ·rw [if_neg h, if_pos h2]
    refine ⟨fun e => absurd e (by decide), fun e => ?_⟩
    rw [(List.cons.inj e).1, UInt8.lt_iff_toNat_lt] at h2; omega
   ·rw [if_neg h, if_neg h2, ih]
    have he : a = b := by
     rw [UInt8.lt_iff_toNat_lt] at h h2
     exact UInt8.toNat_inj.1 (by omega)
    subst he
    constructor
    ·intro e; rw [e]
    ·intro e; exact (List.cons.inj e).2
theorem cb_chain : ∀ x y z : List UInt8, Lib.compareBytes x y ≤ 0 → Lib.compareBytes y z ≤ 0 → Lib.compareBytes x z ≤ 0
 | [], _, [] => fun _ _ => by simp [Lib.compareBytes]
 | [], _, _ :: _ => fun _ _ => by simp [Lib.compareBytes]
 | _ :: _, [], _ => fun h _ => by simp [Lib.compareBytes] at h
 | _ :: _, _ :: _, [] => fun _ h => by simp [Lib.compareBytes] at h
 | a :: x, b :: y, c :: z => fun h1 h2 => by
  rw [Lib.compareBytes] at h1 h2 ⊢
  have ih := cb_chain x y z
  simp only [UInt8.lt_iff_toNat_lt] at h1 h2 ⊢
  by_cases p : a.toNat < b.toNat
  ·have q : ¬ c.toNat < b.toNat := by
    intro q; rw [if_neg (by omega), if_pos q] at h2; omega
   rw [if_pos (by omega)]; decide
  ·rw [if_neg p] at h1
   have p2 : ¬ b.toNat < a.toNat := by intro q; rw [if_pos q] at h1; omega
   rw [if_neg p2] at h1
   by_cases q : b.toNat < c.toNat
   ·rw [if_pos (by omega)]; decide
   ·rw [if_neg q] at h2
    have q2 : ¬ c.toNat < b.toNat := by intro z; rw [if_pos z] at h2; omega
    rw [if_neg q2] at h2
    rw [if_neg (by omega), if_neg (by omega)]
    exact ih h1 h2
theorem scm_ok (a b : ByteArray) : Runs (fun k => strCmp.f k a b) ((cbV a b, ()), ()) := ⟨0, fun k _ => rfl⟩
theorem bcmp_ok (a b : ByteArray) : Runs (fun k => bytealg_CompareString.f k a b) ((cbV a b, ()), ()) := Runs.step (body := fun k => (strCmp.f k a b).bind fun r => some ((r.1.1, ()), ())) (fun k => rfl) (Runs.bind (scm_ok a b) Runs.some)
theorem scmp_ok (a b : ByteArray) : Runs (fun k => strings_Compare.f k a b) ((cbV a b, ()), ()) := Runs.step (body := fun k => (bytealg_CompareString.f k a b).bind fun r => some ((r.1.1, ()), ())) (fun k => rfl) (Runs.bind (bcmp_ok a b) Runs.some)
end Go.Proofs.Ytcjiipbppkdkaaa.Pure
