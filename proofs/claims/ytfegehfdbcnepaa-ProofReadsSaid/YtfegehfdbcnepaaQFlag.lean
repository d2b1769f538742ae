/- Readers: a truth. -/
import Derived.Test.YtfegehfdbcnepaaQReader
import Derived.Test.YtfegehfdbcnepaaPOctet
namespace Go.Proofs.Ytfegehfdbcnepaa.Q
open Go.RowKit Go.Proofs.Ytfegehfdbcnepaa.PAll Go.Proofs.YtfegehfdbcnepaaW.PrintWords Go.Proofs.YtfegehfdbcnepaaW.PrintLast
set_option linter.unusedVariables false
set_option linter.unusedSimpArgs false
def leB (l : List UInt8) : Bool := Op.bytesLess l ([1] : List UInt8) || l == ([1] : List UInt8)
/-- A truth. -/
def flagS (rest : List UInt8) (e : Int) : Bool × List UInt8 × Int :=
  if leB (rawS rest e 1).1 = true then ((rawS rest e 1).1 == ([1] : List UInt8), (rawS rest e 1).2.1, (rawS rest e 1).2.2) else (false, (rawS rest e 1).2.1, if (rawS rest e 1).2.2 = 0 then 4 else (rawS rest e 1).2.2)
theorem flag_ok {s : ByteArray} {pos e : Int} {rest : List UInt8} (hs : s.size ≤ 4611686018427387904) (h : Rdr s pos e rest) :
    ∃ pos', octet_Reader_Flag.f s pos e = some ((flagS rest e).1, s, pos', (flagS rest e).2.2) ∧ Rdr s pos' (flagS rest e).2.2 (flagS rest e).2.1 := by
  unfold octet_Reader_Flag.f
  obtain ⟨p1, h1, r1⟩ := raw_ok hs h 1 (by omega)
  rw [h1, bind_some']
  show ∃ pos', (if leB (B (rawS rest e 1).1).toList = true then some ((B (rawS rest e 1).1).toList == ([1] : List UInt8), s, p1, (rawS rest e 1).2.2) else (octet_Reader_Fail.f s p1 (rawS rest e 1).2.2 4).bind fun b => some (false, b.1, b.2.1, b.2.2)) = _ ∧ _
  rw [toList_eq, L_B]
  unfold flagS
  by_cases hl : leB (rawS rest e 1).1 = true
  · rw [if_pos hl, if_pos hl]
    exact ⟨p1, rfl, r1⟩
  · rw [if_neg hl, if_neg hl]
    unfold octet_Reader_Fail.f
    by_cases he : (rawS rest e 1).2.2 = 0
    · simp only [if_pos he, bind_some']
      exact ⟨p1, rfl, Rdr.err (show (4 : Int) ≠ 0 by decide)⟩
    · simp only [if_neg he, bind_some']
      exact ⟨p1, rfl, r1⟩
theorem flagS_err (rest : List UInt8) (e : Int) (he : e ≠ 0) : flagS rest e = (false, rest, e) := by
  unfold flagS rawS
  rw [if_neg he]
  rfl
theorem flagS_flag (b : Bool) (rest : List UInt8) : flagS ((if b = true then 1 else 0) :: rest) 0 = (b, rest, 0) := by
  have : rawS ((if b = true then 1 else 0) :: rest) 0 1 = ([if b = true then 1 else 0], rest, 0) := by
    unfold rawS
    rw [if_pos rfl, if_neg (by decide), if_neg (by simp only [List.length_cons]; omega)]
    rfl
  unfold flagS
  rw [this]
  cases b <;> rfl
theorem leB_one (c : UInt8) (h : leB [c] = true) : c = 0 ∨ c = 1 := by
  have hc := c.toNat_lt
  have h2 : c.toNat < 1 ∨ c.toNat = 1 := by
    unfold leB at h
    rcases Bool.or_eq_true_iff.1 h with h | h
    · left
      simp [Op.bytesLess, UInt8.lt_iff_toNat_lt] at h
      simpa using h
    · right
      have : c = 1 := by simpa using h
      rw [this]; rfl
  rcases h2 with h2 | h2
  · exact .inl (UInt8.toNat_inj.1 (by rw [show c.toNat = 0 from by omega]; rfl))
  · exact .inr (UInt8.toNat_inj.1 (by rw [h2]; rfl))
/-- What was read as a truth without a fault is its byte, and what is left. -/
theorem flagS_back (rest : List UInt8) (h : (flagS rest 0).2.2 = 0) : rest = (if (flagS rest 0).1 = true then 1 else 0) :: (flagS rest 0).2.1 := by
  cases rest with
  | nil => exact absurd h (by decide)
  | cons c t =>
    have hr : rawS (c :: t) 0 1 = ([c], t, 0) := by
      unfold rawS
      rw [if_pos rfl, if_neg (by decide), if_neg (by simp only [List.length_cons]; omega)]
      rfl
    unfold flagS at h ⊢
    rw [hr] at h ⊢
    by_cases hl : leB [c] = true
    · rw [if_pos hl]
      rcases leB_one c hl with rfl | rfl <;> rfl
    · rw [if_neg hl] at h
      exact absurd h (show ¬ (4 : Int) = 0 by decide)
end Go.Proofs.Ytfegehfdbcnepaa.Q
