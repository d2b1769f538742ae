/- Writers, one lay at a time: what nothing failed lays. No function of the program but layer octet's. -/
import Derived.Test.YtabdmnoejoiboaaQOctet
import Derived.Test.YtabdmnoejoiboaaPOctet
namespace Go.Proofs.Ytabdmnoejoiboaa.Q
open Go.RowKit Go.Proofs.Ytabdmnoejoiboaa.PAll Go.Proofs.YtabdmnoejoiboaaW.PrintWords Go.Proofs.YtabdmnoejoiboaaW.PrintLast
set_option linter.unusedVariables false
set_option linter.unusedSimpArgs false
theorem w_num (k : Nat) (hk : 12 ≤ k) (s : ByteArray) (n : Int) (hs : s.size ≤ 9223372036854775000) (h0 : 0 ≤ n) (h1 : n < 72057594037927936) :
    octet_Writer_Num.f k s false n = some (s ++ numI n, false) := by
  unfold octet_Writer_Num.f
  rw [octet_num k hk]
  have := numI_size n
  rw [bind_some', if_neg (by decide), if_pos (by omega), toList_eq]
  unfold numI
  rw [if_neg (by omega)]
  rfl
theorem w_text (k : Nat) (hk : 12 ≤ k) (s : ByteArray) (no : Bool) (a : ByteArray) (hs : s.size + a.size ≤ 9223372036854774000) :
    octet_Writer_Text.f k s no a = some (s ++ (numI a.size ++ a), no) := by
  unfold octet_Writer_Text.f
  rw [octet_text k hk a (by omega)]
  have := numI_size (a.size : Int)
  rw [bind_some', if_pos (by rw [ByteArray.size_append]; omega)]
/-- A truth's byte. -/
def flagB (b : Bool) : ByteArray := B [if b = true then 1 else 0]
theorem flagB_size (b : Bool) : (flagB b).size = 1 := rfl
theorem w_flag (s : ByteArray) (no : Bool) (b : Bool) (hs : s.size ≤ 9223372036854774000) : octet_Writer_Flag.f s no b = some (s ++ flagB b, no) := by
  unfold octet_Writer_Flag.f
  cases b
  · rw [if_neg (by decide), if_pos (by omega)]; rfl
  · rw [if_pos rfl, if_pos (by omega)]; rfl
theorem w_all (s : ByteArray) : octet_Writer_All.f s false = some (s, true, s, false) := rfl
end Go.Proofs.Ytabdmnoejoiboaa.Q
