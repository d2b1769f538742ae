/- Layer octet in plain lists: writers. -/
import Derived.Test.YtfegehfdbcnepaaPOctet
import Derived.Test.YtfegehfdbcnepaaQTexts
namespace Go.Proofs.Ytfegehfdbcnepaa.Q
open Go.RowKit Go.Proofs.Ytfegehfdbcnepaa.PAll Go.Proofs.YtfegehfdbcnepaaW.PrintWords Go.Proofs.YtfegehfdbcnepaaW.PrintLast
set_option linter.unusedVariables false
set_option linter.unusedSimpArgs false

theorem writer_num (k : Nat) (hk : 12 ≤ k) (s : ByteArray) (no : Bool) (n : Int) (hs : s.size ≤ 9223372036854775000) :
    octet_Writer_Num.f k s no n = some (s ++ numI n, no || (L (numI n)).isEmpty) := by
  unfold octet_Writer_Num.f
  rw [octet_num k hk]
  have := numI_size n
  simp only [bind_some', toList_eq]
  cases no with
  | true => rw [if_pos rfl, if_pos (by omega)]; rfl
  | false => rw [if_neg (by decide), if_pos (by omega)]; rfl
theorem writer_text (k : Nat) (hk : 12 ≤ k) (s : ByteArray) (no : Bool) (a : ByteArray) (hs : s.size + a.size ≤ 9223372036854774000) :
    octet_Writer_Text.f k s no a = some (s ++ textB a, no) := by
  unfold octet_Writer_Text.f
  rw [octet_text' k hk a (by omega)]
  have := textB_size a
  simp only [bind_some']
  rw [if_pos (by omega)]
theorem wtexts_loop (l : List ByteArray) (no : Bool) (hl : l.length ≤ 1152921504606846976) : ∀ (m k i : Nat) (s : ByteArray), l.length - i = m → m + 12 < k → i ≤ l.length → s.size + room (l.drop i) ≤ 9223372036854774000 →
    octet_Writer_Texts.l0 k l (l.length : Int) (i : Int) s no = some (s ++ textsB (l.drop i), no) := by
  intro m
  induction m with
  | zero =>
    intro k i s hm hk hi hs
    obtain ⟨k, rfl⟩ : ∃ q, k = q + 1 := ⟨k - 1, by omega⟩
    rw [octet_Writer_Texts.l0, if_neg (by omega), List.drop_of_length_le (by omega)]
    rw [show textsB [] = B [] from rfl, append_B_nil]
  | succ m ih =>
    intro k i s hm hk hi hs
    obtain ⟨k, rfl⟩ : ∃ q, k = q + 1 := ⟨k - 1, by omega⟩
    have hlt : i < l.length := by omega
    rw [List.drop_eq_getElem_cons hlt] at hs ⊢
    simp only [room] at hs
    rw [octet_Writer_Texts.l0, if_pos (by omega), if_pos (by omega), if_pos (by omega), rd_getElem l i hlt, writer_text k (by omega) s no _ (by omega)]
    simp only [bind_some']
    rw [wrap64_id (by omega) (by omega), show ((i : Int) + 1) = ((i + 1 : Nat) : Int) from by omega]
    have := textB_size l[i]
    rw [ih k (i + 1) _ (by omega) (by omega) (by omega) (by rw [ByteArray.size_append]; omega)]
    rw [BA_assoc]
    rfl
theorem writer_texts (k : Nat) (l : List ByteArray) (hk : l.length + 13 ≤ k) (s : ByteArray) (no : Bool) (hs : s.size + room l ≤ 9223372036854773000) (hl : l.length ≤ 1152921504606846976) :
    octet_Writer_Texts.f k s no l = some (s ++ numI l.length ++ textsB l, no || (L (numI l.length)).isEmpty) := by
  unfold octet_Writer_Texts.f
  rw [writer_num k (by omega) s no _ (by omega)]
  simp only [bind_some']
  have := numI_size (l.length : Int)
  have h := wtexts_loop l (no || (L (numI l.length)).isEmpty) hl l.length k 0 (s ++ numI l.length) (by omega) (by omega) (by omega) (by rw [ByteArray.size_append, List.drop_zero]; omega)
  rw [List.drop_zero] at h
  exact h
theorem writer_all (s : ByteArray) (no : Bool) : octet_Writer_All.f s no = some (if no = true then B [] else s, !no, s, no) := by
  unfold octet_Writer_All.f
  cases no <;> rfl

end Go.Proofs.Ytfegehfdbcnepaa.Q
