/- Layer value in plain numbers: what is clean, and what may be. -/
import Derived.Test.YtabdmnoejoiboaaPValue
import Derived.Test.YtabdmnoejoiboaaQOctet
namespace Go.Proofs.Ytabdmnoejoiboaa.Q
open Go.RowKit Go.Proofs.Ytabdmnoejoiboaa.PAll Go.Proofs.YtabdmnoejoiboaaW.PrintWords Go.Proofs.YtabdmnoejoiboaaW.PrintLast
set_option linter.unusedVariables false
set_option linter.unusedSimpArgs false
theorem u64_wrap (n : Int) : IntKind.u64.wrap n = n % 18446744073709551616 := by simp [IntKind.wrap, IntKind.bits, IntKind.signed]
theorem u64_wraps (n : Int) (h0 : 0 ≤ n) (h1 : n < 2 ^ 64) : IntKind.u64.wrap n = n := by rw [u64_wrap]; omega
/-- Are bits no number? -/
def nanB (b : Int) : Bool := decide (b % 9223372036854775808 > 9218868437227405312)
theorem nan_ok (b : Int) (h0 : 0 ≤ b) (h1 : b < 18446744073709551616) : value_nan.f b = some (nanB b) := by
  unfold value_nan.f nanB
  rw [show Go.bits .and .u64 b 9223372036854775807 = b % 9223372036854775808 from bits_mask .u64 64 (by decide) u64_wraps 63 (by decide) b h0 h1]
abbrev V5 := Int × Bool × Int × Int × ByteArray
/-- A value with just what its kind has. -/
def cleanV (k : Int) (f : Bool) (n b : Int) (t : ByteArray) : V5 :=
  if k = 1 then (k, f, 0, 0, ⟨#[]⟩) else if k = 2 then (k, false, n, 0, ⟨#[]⟩) else if k = 3 then (k, false, 0, if nanB b = true then 9221120237041090561 else b, ⟨#[]⟩) else if k = 4 then (k, false, 0, 0, t) else (k, false, 0, 0, ⟨#[]⟩)
theorem clean_ok (k : Int) (f : Bool) (n b : Int) (t : ByteArray) (h0 : 0 ≤ b) (h1 : b < 18446744073709551616) : value_Clean.f k f n b t = some (cleanV k f n b t) := by
  unfold value_Clean.f cleanV
  by_cases q1 : k = 1
  · rw [if_pos q1, if_pos q1]
  rw [if_neg q1, if_neg q1]
  by_cases q2 : k = 2
  · rw [if_pos q2, if_pos q2]
  rw [if_neg q2, if_neg q2]
  by_cases q3 : k = 3
  · rw [if_pos q3, if_pos q3, nan_ok b h0 h1, bind_some']
    cases nanB b <;> rfl
  rw [if_neg q3, if_neg q3]
  by_cases q4 : k = 4
  · rw [if_pos q4, if_pos q4]
  rw [if_neg q4, if_neg q4]
/-- Is a value the one that is told? -/
def sameV (k : Int) (f : Bool) (n b : Int) (t : ByteArray) (v : V5) : Bool := (k == v.1 && (f == v.2.1 && (n == v.2.2.1 && (b == v.2.2.2.1 && (t.toList == v.2.2.2.2.toList)))))
theorem sameV_iff (k : Int) (f : Bool) (n b : Int) (t : ByteArray) (v : V5) : sameV k f n b t v = true ↔ (k, f, n, b, t) = v := by
  obtain ⟨k', f', n', b', t'⟩ := v
  unfold sameV
  simp only [Bool.and_eq_true, beq_iff_eq, Prod.mk.injEq, toList_eq]
  constructor
  · rintro ⟨rfl, rfl, rfl, rfl, h⟩; exact ⟨rfl, rfl, rfl, rfl, L_inj h⟩
  · rintro ⟨rfl, rfl, rfl, rfl, rfl⟩; exact ⟨rfl, rfl, rfl, rfl, rfl⟩
theorem sameV_self (k : Int) (f : Bool) (n b : Int) (t : ByteArray) : sameV k f n b t (k, f, n, b, t) = true := (sameV_iff k f n b t _).2 rfl
/-- May a value be? -/
def rightV (k : Int) (f : Bool) (n b : Int) (t : ByteArray) : Bool := decide (0 ≤ k) && (decide (k ≤ 4) && (decide ((t.size : Int) ≤ 200) && sameV k f n b t (cleanV k f n b t)))
theorem right_ok (k : Int) (f : Bool) (n b : Int) (t : ByteArray) (h0 : 0 ≤ b) (h1 : b < 18446744073709551616) : value_Right.f k f n b t = some (rightV k f n b t) := by
  unfold value_Right.f rightV
  rw [clean_ok k f n b t h0 h1, bind_some']
  by_cases q1 : k ≥ 0
  · rw [if_pos q1, decide_eq_true q1, Bool.true_and]
    by_cases q2 : k ≤ 4
    · rw [if_pos q2, decide_eq_true q2, Bool.true_and]
      by_cases q3 : (t.size : Int) ≤ 200
      · rw [if_pos q3, decide_eq_true q3, Bool.true_and]; rfl
      · rw [if_neg q3, decide_eq_false q3, Bool.false_and]
    · rw [if_neg q2, decide_eq_false q2, Bool.false_and]
  · rw [if_neg q1, decide_eq_false q1, Bool.false_and]
theorem rightV_facts {k : Int} {f : Bool} {n b : Int} {t : ByteArray} (h : rightV k f n b t = true) : 0 ≤ k ∧ k ≤ 4 ∧ t.size ≤ 200 ∧ (k, f, n, b, t) = cleanV k f n b t := by
  unfold rightV at h
  simp only [Bool.and_eq_true, decide_eq_true_eq] at h
  exact ⟨h.1, h.2.1, by omega, (sameV_iff ..).1 h.2.2.2⟩
/-- What a value that may be has of each kind. -/
theorem rightV_cases {k : Int} {f : Bool} {n b : Int} {t : ByteArray} (h : rightV k f n b t = true) : t.size ≤ 200 ∧
    ((k = 0 ∧ f = false ∧ n = 0 ∧ b = 0 ∧ t = ⟨#[]⟩) ∨ (k = 1 ∧ n = 0 ∧ b = 0 ∧ t = ⟨#[]⟩) ∨ (k = 2 ∧ f = false ∧ b = 0 ∧ t = ⟨#[]⟩) ∨ (k = 3 ∧ f = false ∧ n = 0 ∧ t = ⟨#[]⟩) ∨ (k = 4 ∧ f = false ∧ n = 0 ∧ b = 0)) := by
  obtain ⟨h0, h1, h2, h3⟩ := rightV_facts h
  refine ⟨h2, ?_⟩
  unfold cleanV at h3
  by_cases q1 : k = 1
  · rw [if_pos q1] at h3; injection h3 with a b; injection b with b c; injection c with c d; injection d with d e
    exact .inr (.inl ⟨q1, c, d, e⟩)
  rw [if_neg q1] at h3
  by_cases q2 : k = 2
  · rw [if_pos q2] at h3; injection h3 with a b; injection b with b c; injection c with c d; injection d with d e
    exact .inr (.inr (.inl ⟨q2, b, d, e⟩))
  rw [if_neg q2] at h3
  by_cases q3 : k = 3
  · rw [if_pos q3] at h3; injection h3 with a b; injection b with b c; injection c with c d; injection d with d e
    exact .inr (.inr (.inr (.inl ⟨q3, b, c, e⟩)))
  rw [if_neg q3] at h3
  by_cases q4 : k = 4
  · rw [if_pos q4] at h3; injection h3 with a b; injection b with b c; injection c with c d; injection d with d e
    exact .inr (.inr (.inr (.inr ⟨q4, b, c, d⟩)))
  rw [if_neg q4] at h3; injection h3 with a b; injection b with b c; injection c with c d; injection d with d e
  exact .inl ⟨by omega, b, c, d, e⟩
end Go.Proofs.Ytabdmnoejoiboaa.Q
