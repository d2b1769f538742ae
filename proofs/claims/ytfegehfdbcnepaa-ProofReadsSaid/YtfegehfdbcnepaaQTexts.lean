/- Texts as they are laid, in plain lists. -/
import Derived.Test.YtfegehfdbcnepaaQOctet
namespace Go.Proofs.Ytfegehfdbcnepaa.Q
open Go.RowKit Go.Proofs.Ytfegehfdbcnepaa.PAll Go.Proofs.YtfegehfdbcnepaaW.PrintWords Go.Proofs.YtfegehfdbcnepaaW.PrintLast
set_option linter.unusedVariables false
set_option linter.unusedSimpArgs false

theorem numI_some {n : Int} (h0 : 0 ≤ n) (h1 : n < 72057594037927936) : numI n = B (numL n.toNat) ∧ (L (numI n)).isEmpty = false := by
  unfold numI
  rw [if_neg (by omega)]
  exact ⟨rfl, rfl⟩
/-- A text as it is laid. -/
def textB (a : ByteArray) : ByteArray := numI a.size ++ a
theorem textB_size (a : ByteArray) : (textB a).size ≤ a.size + 8 := by
  unfold textB
  rw [ByteArray.size_append]
  have := numI_size a.size
  omega
theorem octet_text' (k : Nat) (hk : 12 ≤ k) (s : ByteArray) (h : s.size ≤ 9223372036854775000) : octet_Text.f k s = some (textB s) := octet_text k hk s h
/-- Texts as they are laid. -/
def textsB : List ByteArray → ByteArray
  | [] => B []
  | a :: l => textB a ++ textsB l
def room : List ByteArray → Nat
  | [] => 0
  | a :: l => a.size + 8 + room l
theorem textsB_size (l : List ByteArray) : (textsB l).size ≤ room l := by
  induction l with
  | nil => simp [textsB, size_B]
  | cons a l ih =>
    simp only [textsB, room, ByteArray.size_append]
    have := textB_size a
    omega
theorem room_le (l : List ByteArray) (m : Nat) (h : ∀ a ∈ l, a.size ≤ m) : room l ≤ l.length * (m + 8) := by
  induction l with
  | nil => simp [room]
  | cons a l ih =>
    have h1 := h a (List.mem_cons_self ..)
    have h2 := ih (fun b hb => h b (List.mem_cons_of_mem _ hb))
    simp only [room, List.length_cons, Nat.add_mul]
    omega
theorem BA_assoc (a b c : ByteArray) : a ++ b ++ c = a ++ (b ++ c) := by apply L_inj; simp [L_append]
theorem rd_getElem (l : List ByteArray) (i : Nat) (h : i < l.length) : rdOf ByteArray.empty l (i : Int) = l[i] := by
  unfold rdOf
  simp [h]
end Go.Proofs.Ytfegehfdbcnepaa.Q
