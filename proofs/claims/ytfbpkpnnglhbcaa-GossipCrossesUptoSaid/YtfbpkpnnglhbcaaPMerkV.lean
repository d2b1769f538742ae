/- Plain laws: trees of sums as plain functions; what holds of them. -/
import Derived.Test.YtfbpkpnnglhbcaaPMill
namespace Go.Proofs.Ytfbpkpnnglhbcaa.Pure
open Go Go.Proofs.Ytfbpkpnnglhbcaa.E Go.Proofs.Ytfbpkpnnglhbcaa.Eng
set_option linter.unusedVariables false
set_option linter.unusedSimpArgs false

abbrev Tab := List (ByteArray × ByteArray)
def S32 (l : List ByteArray) : Prop := ∀ x ∈ l, x.size = 32
theorem S32.take {l : List ByteArray} (h : S32 l) (k : Nat) : S32 (l.take k) := fun x hx => h x (List.mem_of_mem_take hx)
theorem S32.drop {l : List ByteArray} (h : S32 l) (k : Nat) : S32 (l.drop k) := fun x hx => h x (List.mem_of_mem_drop hx)
theorem S32.dropLast {l : List ByteArray} (h : S32 l) : S32 l.dropLast := fun x hx => h x (List.dropLast_subset l hx)
theorem S32.app {a b : List ByteArray} (h : S32 a) (h' : S32 b) : S32 (a ++ b) := fun x hx => (List.mem_append.1 hx).elim (h x) (h' x)
theorem S32.one {x : ByteArray} (h : x.size = 32) : S32 [x] := fun y hy => by rw [List.mem_singleton.1 hy]; exact h
def lastV (l : List ByteArray) : ByteArray := l.getLastD ⟨#[]⟩
theorem lastV_mem {l : List ByteArray} (h : l.length ≠ 0) : lastV l ∈ l := by
  have hl : l ≠ [] := fun e => h (by rw [e]; rfl)
  unfold lastV
  rw [List.getLastD_eq_getLast?, List.getLast?_eq_some_getLast hl]
  exact List.getLast_mem hl
theorem S32.last {l : List ByteArray} (h : S32 l) (h' : l.length ≠ 0) : (lastV l).size = 32 := h _ (lastV_mem h')
section
variable (T : Tab)
noncomputable def rootV (l : List ByteArray) : ByteArray :=
  if l.length = 0 then noneV T else if l.length < 2 then l.headD ⟨#[]⟩ else nodeV T (rootV (l.take (belowN l.length))) (rootV (l.drop (belowN l.length)))
termination_by l.length
decreasing_by
  · have := below_lt (n := l.length) (by omega); rw [List.length_take]; omega
  · have := below_pos l.length; rw [List.length_drop]; omega
noncomputable def pathV (l : List ByteArray) (i : Nat) : List ByteArray :=
  if l.length < 2 then [] else if i < belowN l.length then pathV (l.take (belowN l.length)) i ++ [rootV T (l.drop (belowN l.length))] else pathV (l.drop (belowN l.length)) (i - belowN l.length) ++ [rootV T (l.take (belowN l.length))]
termination_by l.length
decreasing_by
  · have := below_lt (n := l.length) (by omega); rw [List.length_take]; omega
  · have := below_pos l.length; rw [List.length_drop]; omega
noncomputable def growV (l : List ByteArray) (a : Nat) (whole : Bool) : List ByteArray :=
  if a = l.length then (if whole = true then [] else [rootV T l]) else if l.length < 2 then [] else
  if a ≤ belowN l.length then growV (l.take (belowN l.length)) a whole ++ [rootV T (l.drop (belowN l.length))] else growV (l.drop (belowN l.length)) (a - belowN l.length) false ++ [rootV T (l.take (belowN l.length))]
termination_by l.length
decreasing_by
  · have := below_lt (n := l.length) (by omega); rw [List.length_take]; omega
  · have := below_pos l.length; rw [List.length_drop]; omega
def depthV (i n : Nat) : Nat := if n < 2 then 0 else if i < belowN n then 1 + depthV i (belowN n) else 1 + depthV (i - belowN n) (n - belowN n)
termination_by n
decreasing_by
  · exact below_lt (n := n) (by omega)
  · have := below_pos n; omega
noncomputable def climbV (leaf : ByteArray) (i n : Nat) (p : List ByteArray) : ByteArray :=
  if n < 2 then leaf else if i < belowN n then nodeV T (climbV leaf i (belowN n) p.dropLast) (lastV p) else nodeV T (lastV p) (climbV leaf (i - belowN n) (n - belowN n) p.dropLast)
termination_by n
decreasing_by
  · exact below_lt (n := n) (by omega)
  · have := below_pos n; omega
def longV (a n : Nat) (whole : Bool) : Nat :=
  if a = n then (if whole = true then 0 else 1) else if n < 2 then 1 else if a ≤ belowN n then 1 + longV a (belowN n) whole else 1 + longV (a - belowN n) (n - belowN n) false
termination_by n
decreasing_by
  · exact below_lt (n := n) (by omega)
  · have := below_pos n; omega
noncomputable def bothV (a n : Nat) (whole : Bool) (old : ByteArray) (p : List ByteArray) : ByteArray × ByteArray :=
  if a = n then (if whole = true then (old, old) else (lastV p, lastV p)) else if n < 2 then (lastV p, lastV p) else
  if a ≤ belowN n then ((bothV a (belowN n) whole old p.dropLast).1, nodeV T (bothV a (belowN n) whole old p.dropLast).2 (lastV p))
  else (nodeV T (lastV p) (bothV (a - belowN n) (n - belowN n) false ⟨#[]⟩ p.dropLast).1, nodeV T (lastV p) (bothV (a - belowN n) (n - belowN n) false ⟨#[]⟩ p.dropLast).2)
termination_by n
decreasing_by
  all_goals first
    | exact below_lt (n := n) (by omega)
    | (have := below_pos n; omega)
end

section
variable {T : Tab}
theorem longV_all (n : Nat) : longV n n true = 0 := by rw [longV, if_pos rfl, if_pos rfl]
theorem longV_part (n : Nat) : longV n n false = 1 := by rw [longV, if_pos rfl, if_neg (by decide)]
theorem longV_left {n : Nat} (h : 2 ≤ n) {a : Nat} {w : Bool} (hn : a ≠ n) (hi : a ≤ belowN n) : longV a n w = 1 + longV a (belowN n) w := by rw [longV, if_neg hn, if_neg (by omega), if_pos hi]
theorem longV_right {n : Nat} (h : 2 ≤ n) {a : Nat} {w : Bool} (hn : a ≠ n) (hi : ¬ a ≤ belowN n) : longV a n w = 1 + longV (a - belowN n) (n - belowN n) false := by rw [longV, if_neg hn, if_neg (by omega), if_neg hi]
theorem bothV_all (n : Nat) (x : ByteArray) (p : List ByteArray) : bothV T n n true x p = (x, x) := by rw [bothV, if_pos rfl, if_pos rfl]
theorem bothV_part (n : Nat) (x : ByteArray) (p : List ByteArray) : bothV T n n false x p = (lastV p, lastV p) := by rw [bothV, if_pos rfl, if_neg (by decide)]
theorem bothV_left {n : Nat} (h : 2 ≤ n) {a : Nat} {w : Bool} (hn : a ≠ n) (hi : a ≤ belowN n) (x : ByteArray) (p : List ByteArray) : bothV T a n w x p = ((bothV T a (belowN n) w x p.dropLast).1, nodeV T (bothV T a (belowN n) w x p.dropLast).2 (lastV p)) := by rw [bothV, if_neg hn, if_neg (by omega), if_pos hi]
theorem bothV_right {n : Nat} (h : 2 ≤ n) {a : Nat} {w : Bool} (hn : a ≠ n) (hi : ¬ a ≤ belowN n) (x : ByteArray) (p : List ByteArray) : bothV T a n w x p = (nodeV T (lastV p) (bothV T (a - belowN n) (n - belowN n) false ⟨#[]⟩ p.dropLast).1, nodeV T (lastV p) (bothV T (a - belowN n) (n - belowN n) false ⟨#[]⟩ p.dropLast).2) := by rw [bothV, if_neg hn, if_neg (by omega), if_neg hi]

end
end Go.Proofs.Ytfbpkpnnglhbcaa.Pure
