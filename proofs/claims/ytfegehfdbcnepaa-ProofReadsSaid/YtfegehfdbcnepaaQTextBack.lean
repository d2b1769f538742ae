/- Layer octet in plain lists: texts and ends, told back. -/
import Derived.Test.YtfegehfdbcnepaaQTexts
import Derived.Test.YtfegehfdbcnepaaQReader
namespace Go.Proofs.Ytfegehfdbcnepaa.Q
open Go.RowKit Go.Proofs.Ytfegehfdbcnepaa.PAll Go.Proofs.YtfegehfdbcnepaaW.PrintWords Go.Proofs.YtfegehfdbcnepaaW.PrintLast
set_option linter.unusedVariables false
set_option linter.unusedSimpArgs false
theorem textS_text (a : ByteArray) (rest : List UInt8) (most : Int) (hm : (a.size : Int) ≤ most) (h : a.size < 72057594037927936) : textS (L (textB a) ++ rest) 0 most = (L a, rest, 0) := by
  unfold textS textB
  rw [L_append, (numI_some (n := (a.size : Int)) (by omega) (by omega)).1, L_B, Int.toNat_natCast, List.append_assoc, numS_num _ h _ _ hm]
  unfold rawS
  simp only [if_true]
  rw [if_neg (by omega), if_neg (by rw [List.length_append, ← size_L]; omega), Int.toNat_natCast, size_L, List.take_left, List.drop_left]
theorem textS_err (rest : List UInt8) (e most : Int) (he : e ≠ 0) : textS rest e most = ([], rest, e) := by
  unfold textS
  rw [numS_err rest e most he]
  unfold rawS
  rw [if_neg he]
theorem endS_ok {rest : List UInt8} {e : Int} (h : endS rest e = 0) : e = 0 ∧ rest = [] := by
  unfold endS at h
  by_cases he : e = 0
  · rw [if_pos he] at h
    by_cases hr : rest = []
    · exact ⟨he, hr⟩
    · rw [if_neg hr] at h; simp at h
  · rw [if_neg he] at h; exact absurd h he
end Go.Proofs.Ytfegehfdbcnepaa.Q
