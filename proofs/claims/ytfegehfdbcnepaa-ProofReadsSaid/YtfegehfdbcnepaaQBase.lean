/- Numbers as bytes, the highest first: plain lists, no program. -/
import Derived.Test.YtfegehfdbcnepaaWWords
namespace Go.Proofs.Ytfegehfdbcnepaa.Q
open Go.RowKit Go.Proofs.YtfegehfdbcnepaaW.PrintWords
set_option linter.unusedVariables false
set_option linter.unusedSimpArgs false

/-- A text out of its bytes. -/
def B (l : List UInt8) : ByteArray := ⟨l.toArray⟩
/-- The bytes of a text. -/
def L (s : ByteArray) : List UInt8 := s.data.toList
theorem L_B (l : List UInt8) : L (B l) = l := rfl
theorem B_L (s : ByteArray) : B (L s) = s := rfl
theorem L_inj {s t : ByteArray} (h : L s = L t) : s = t := by rw [← B_L s, h, B_L]
theorem L_append (s t : ByteArray) : L (s ++ t) = L s ++ L t := by simp [L]
theorem B_append (l m : List UInt8) : B (l ++ m) = B l ++ B m := by apply L_inj; rw [L_append]; rfl
theorem size_L (s : ByteArray) : s.size = (L s).length := by simp [L]
theorem size_B (l : List UInt8) : (B l).size = l.length := rfl
theorem toList_loop (s : ByteArray) : ∀ (n i : Nat) (r : List UInt8), s.size - i = n → ByteArray.toList.loop s i r = r.reverse ++ (L s).drop i := by
  intro n
  induction n with
  | zero =>
    intro i r h
    rw [ByteArray.toList.loop, if_neg (by omega)]
    rw [List.drop_of_length_le (by rw [← size_L]; omega), List.append_nil]
  | succ n ih =>
    intro i r h
    rw [ByteArray.toList.loop, if_pos (by omega), ih (i + 1) _ (by omega)]
    have hi : i < (L s).length := by rw [← size_L]; omega
    rw [List.drop_eq_getElem_cons hi]
    have : s.get! i = (L s)[i] := by
      show s.data.get!Internal i = _
      rw [Array.get!Internal_eq_getElem!, getElem!_pos s.data i (by have : s.size = s.data.size := rfl; omega)]
      simp [L]
    simp [this]
theorem toList_eq (s : ByteArray) : s.toList = L s := by
  unfold ByteArray.toList
  rw [toList_loop s _ 0 [] rfl]
  rfl

/-- A number's bytes, the highest first; of 0 none. -/
def digs (n : Nat) : List UInt8 := if h : n = 0 then [] else digs (n / 256) ++ [UInt8.ofNat (n % 256)]
theorem digs_zero : digs 0 = [] := by unfold digs; rfl
theorem digs_pos {n : Nat} (h : 0 < n) : digs n = digs (n / 256) ++ [UInt8.ofNat (n % 256)] := by
  rw [digs, dif_neg (by omega)]
theorem digs_length_le (k : Nat) : ∀ n, n < 256 ^ k → (digs n).length ≤ k := by
  induction k with
  | zero => intro n h; have : n = 0 := by omega
            subst this; rw [digs_zero]; simp
  | succ k ih =>
    intro n h
    rcases Nat.eq_zero_or_pos n with rfl | hn
    · rw [digs_zero]; simp
    · rw [digs_pos hn]
      have := ih (n / 256) (by rw [Nat.pow_succ] at h; omega)
      simp; omega
/-- A number below 2^56 as bytes: how many it needs, and these. -/
def numL (n : Nat) : List UInt8 := UInt8.ofNat (digs n).length :: digs n
/-- What a number is laid as; nothing, if it has no bytes. -/
def numI (n : Int) : ByteArray := if n < 0 ∨ 72057594037927936 ≤ n then B [] else B (numL n.toNat)
theorem strOfNums_one (n : Nat) (h : n < 256) : strOfNums [(n : Int)] = B [UInt8.ofNat n] := rfl
end Go.Proofs.Ytfegehfdbcnepaa.Q
