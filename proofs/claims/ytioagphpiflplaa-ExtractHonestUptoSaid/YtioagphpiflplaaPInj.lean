/- Plain laws: trees of sums whose texts are told apart by their sums have one list of leaves. -/
import Derived.Test.YtioagphpiflplaaPMerkV
namespace Go.Proofs.Ytioagphpiflplaa.Pure
open Go Go.Proofs.Ytioagphpiflplaa.E Go.Proofs.Ytioagphpiflplaa.Eng
set_option linter.unusedVariables false
set_option linter.unusedSimpArgs false

section
variable (T : Tab)
def nodeT (a b : ByteArray) : ByteArray := ((⟨#[1]⟩ : ByteArray) ++ a) ++ b
/-- The texts that are summed. -/
noncomputable def rootW (l : List ByteArray) : List ByteArray :=
  if l.length = 0 then [⟨#[]⟩] else if l.length < 2 then [] else nodeT (rootV T (l.take (belowN l.length))) (rootV T (l.drop (belowN l.length))) :: (rootW (l.drop (belowN l.length)) ++ rootW (l.take (belowN l.length)))
termination_by l.length
decreasing_by
  all_goals first
    | (have := below_pos l.length; rw [List.length_drop]; omega)
    | (have := below_lt (n := l.length) (by omega); rw [List.length_take]; omega)
noncomputable def climbW (leaf : ByteArray) (i n : Nat) (p : List ByteArray) : List ByteArray :=
  if n < 2 then [] else if i < belowN n then nodeT (climbV T leaf i (belowN n) p.dropLast) (lastV p) :: climbW leaf i (belowN n) p.dropLast else nodeT (lastV p) (climbV T leaf (i - belowN n) (n - belowN n) p.dropLast) :: climbW leaf (i - belowN n) (n - belowN n) p.dropLast
termination_by n
decreasing_by
  all_goals first
    | exact below_lt (n := n) (by omega)
    | (have := below_pos n; omega)
noncomputable def bothW (a n : Nat) (whole : Bool) (old : ByteArray) (p : List ByteArray) : List ByteArray :=
  if a = n then [] else if n < 2 then [] else
  if a ≤ belowN n then nodeT (bothV T a (belowN n) whole old p.dropLast).2 (lastV p) :: bothW a (belowN n) whole old p.dropLast
  else nodeT (lastV p) (bothV T (a - belowN n) (n - belowN n) false ⟨#[]⟩ p.dropLast).2 :: (nodeT (lastV p) (bothV T (a - belowN n) (n - belowN n) false ⟨#[]⟩ p.dropLast).1 :: bothW (a - belowN n) (n - belowN n) false ⟨#[]⟩ p.dropLast)
termination_by n
decreasing_by
  all_goals first
    | exact below_lt (n := n) (by omega)
    | (have := below_pos n; omega)
end
section
variable {T : Tab}
theorem climbW_one {n : Nat} (h : n < 2) (x : ByteArray) (i : Nat) (p : List ByteArray) : climbW T x i n p = [] := by rw [climbW, if_pos h]
theorem climbW_left {n : Nat} (h : 2 ≤ n) {i : Nat} (hi : i < belowN n) (x : ByteArray) (p : List ByteArray) : climbW T x i n p = nodeT (climbV T x i (belowN n) p.dropLast) (lastV p) :: climbW T x i (belowN n) p.dropLast := by rw [climbW, if_neg (by omega), if_pos hi]
theorem climbW_right {n : Nat} (h : 2 ≤ n) {i : Nat} (hi : ¬ i < belowN n) (x : ByteArray) (p : List ByteArray) : climbW T x i n p = nodeT (lastV p) (climbV T x (i - belowN n) (n - belowN n) p.dropLast) :: climbW T x (i - belowN n) (n - belowN n) p.dropLast := by rw [climbW, if_neg (by omega), if_neg hi]
/-- Of these texts no two unlike ones have one sum. -/
def Apart (T : Tab) (W : List ByteArray) : Prop := ∀ x ∈ W, ∀ y ∈ W, hashV T x = hashV T y → x = y
theorem climbV_size (hT : Tok T) {x : ByteArray} (hx : x.size = 32) (i n : Nat) (p : List ByteArray) : (climbV T x i n p).size = 32 := by
  rw [climbV]; split
  · exact hx
  · split <;> exact hashV_size hT _
end
end Go.Proofs.Ytioagphpiflplaa.Pure
