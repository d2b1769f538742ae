/- Plain laws: trees of sums as plain functions; what holds of them. -/
import Derived.Test.YtioagphpiflplaaPMill
namespace Go.Proofs.Ytioagphpiflplaa.Pure
open Go Go.Proofs.Ytioagphpiflplaa.E Go.Proofs.Ytioagphpiflplaa.Eng
set_option linter.unusedVariables false
set_option linter.unusedSimpArgs false

abbrev Tab := List (ByteArray × ByteArray)
def S32 (l : List ByteArray) : Prop := ∀ x ∈ l, x.size = 32
theorem S32.take {l : List ByteArray} (h : S32 l) (k : Nat) : S32 (l.take k) := fun x hx => h x (List.mem_of_mem_take hx)
theorem S32.drop {l : List ByteArray} (h : S32 l) (k : Nat) : S32 (l.drop k) := fun x hx => h x (List.mem_of_mem_drop hx)
theorem S32.dropLast {l : List ByteArray} (h : S32 l) : S32 l.dropLast := fun x hx => h x (List.dropLast_subset l hx)
theorem S32.one {x : ByteArray} (h : x.size = 32) : S32 [x] := fun y hy => by rw [List.mem_singleton.1 hy]; exact h
def lastV (l : List ByteArray) : ByteArray := l.getLastD ⟨#[]⟩
theorem lastV_mem {l : List ByteArray} (h : l.length ≠ 0) : lastV l ∈ l := by
  have hl : l ≠ [] := fun e => h (by rw [e]; rfl)
  unfold lastV
  rw [List.getLastD_eq_getLast?, List.getLast?_eq_some_getLast hl]
  exact List.getLast_mem hl
theorem S32.last {l : List ByteArray} (h : S32 l) (h' : l.length ≠ 0) : (lastV l).size = 32 := h _ (lastV_mem h')
section
variable (T : Tab)
noncomputable def rootV (l : List ByteArray) : ByteArray :=
  if l.length = 0 then noneV T else if l.length < 2 then l.headD ⟨#[]⟩ else nodeV T (rootV (l.take (belowN l.length))) (rootV (l.drop (belowN l.length)))
termination_by l.length
decreasing_by
  · have := below_lt (n := l.length) (by omega); rw [List.length_take]; omega
  · have := below_pos l.length; rw [List.length_drop]; omega
noncomputable def pathV (l : List ByteArray) (i : Nat) : List ByteArray :=
  if l.length < 2 then [] else if i < belowN l.length then pathV (l.take (belowN l.length)) i ++ [rootV T (l.drop (belowN l.length))] else pathV (l.drop (belowN l.length)) (i - belowN l.length) ++ [rootV T (l.take (belowN l.length))]
termination_by l.length
decreasing_by
  · have := below_lt (n := l.length) (by omega); rw [List.length_take]; omega
  · have := below_pos l.length; rw [List.length_drop]; omega
noncomputable def growV (l : List ByteArray) (a : Nat) (whole : Bool) : List ByteArray :=
  if a = l.length then (if whole = true then [] else [rootV T l]) else if l.length < 2 then [] else
  if a ≤ belowN l.length then growV (l.take (belowN l.length)) a whole ++ [rootV T (l.drop (belowN l.length))] else growV (l.drop (belowN l.length)) (a - belowN l.length) false ++ [rootV T (l.take (belowN l.length))]
termination_by l.length
decreasing_by
  · have := below_lt (n := l.length) (by omega); rw [List.length_take]; omega
  · have := below_pos l.length; rw [List.length_drop]; omega
def depthV (i n : Nat) : Nat := if n < 2 then 0 else if i < belowN n then 1 + depthV i (belowN n) else 1 + depthV (i - belowN n) (n - belowN n)
termination_by n
decreasing_by
  · exact below_lt (n := n) (by omega)
  · have := below_pos n; omega
noncomputable def climbV (leaf : ByteArray) (i n : Nat) (p : List ByteArray) : ByteArray :=
  if n < 2 then leaf else if i < belowN n then nodeV T (climbV leaf i (belowN n) p.dropLast) (lastV p) else nodeV T (lastV p) (climbV leaf (i - belowN n) (n - belowN n) p.dropLast)
termination_by n
decreasing_by
  · exact below_lt (n := n) (by omega)
  · have := below_pos n; omega
def longV (a n : Nat) (whole : Bool) : Nat :=
  if a = n then (if whole = true then 0 else 1) else if n < 2 then 1 else if a ≤ belowN n then 1 + longV a (belowN n) whole else 1 + longV (a - belowN n) (n - belowN n) false
termination_by n
decreasing_by
  · exact below_lt (n := n) (by omega)
  · have := below_pos n; omega
noncomputable def bothV (a n : Nat) (whole : Bool) (old : ByteArray) (p : List ByteArray) : ByteArray × ByteArray :=
  if a = n then (if whole = true then (old, old) else (lastV p, lastV p)) else if n < 2 then (lastV p, lastV p) else
  if a ≤ belowN n then ((bothV a (belowN n) whole old p.dropLast).1, nodeV T (bothV a (belowN n) whole old p.dropLast).2 (lastV p))
  else (nodeV T (lastV p) (bothV (a - belowN n) (n - belowN n) false ⟨#[]⟩ p.dropLast).1, nodeV T (lastV p) (bothV (a - belowN n) (n - belowN n) false ⟨#[]⟩ p.dropLast).2)
termination_by n
decreasing_by
  all_goals first
    | exact below_lt (n := n) (by omega)
    | (have := below_pos n; omega)
end

section
variable {T : Tab}
theorem rootV_nil {l : List ByteArray} (h : l.length = 0) : rootV T l = noneV T := by rw [rootV, if_pos h]
theorem rootV_one {l : List ByteArray} (h : l.length = 1) : rootV T l = l.headD ⟨#[]⟩ := by rw [rootV, if_neg (by omega), if_pos (by omega)]
theorem rootV_two {l : List ByteArray} (h : 2 ≤ l.length) : rootV T l = nodeV T (rootV T (l.take (belowN l.length))) (rootV T (l.drop (belowN l.length))) := by rw [rootV, if_neg (by omega), if_neg (by omega)]
theorem rootV_size (hT : Tok T) {l : List ByteArray} (h : S32 l) : (rootV T l).size = 32 := by
  by_cases h0 : l.length = 0
  · rw [rootV_nil h0]; exact hashV_size hT _
  by_cases h1 : l.length = 1
  · obtain ⟨x, rfl⟩ := List.length_eq_one_iff.1 h1
    rw [rootV_one h1]
    exact h x (List.mem_singleton.2 rfl)
  · rw [rootV_two (by omega)]; exact hashV_size hT _
theorem depthV_one {n : Nat} (h : n < 2) (i : Nat) : depthV i n = 0 := by rw [depthV, if_pos h]
theorem depthV_left {n : Nat} (h : 2 ≤ n) {i : Nat} (hi : i < belowN n) : depthV i n = 1 + depthV i (belowN n) := by rw [depthV, if_neg (by omega), if_pos hi]
theorem depthV_right {n : Nat} (h : 2 ≤ n) {i : Nat} (hi : ¬ i < belowN n) : depthV i n = 1 + depthV (i - belowN n) (n - belowN n) := by rw [depthV, if_neg (by omega), if_neg hi]
theorem climbV_one {n : Nat} (h : n < 2) (x : ByteArray) (i : Nat) (p : List ByteArray) : climbV T x i n p = x := by rw [climbV, if_pos h]
theorem climbV_left {n : Nat} (h : 2 ≤ n) {i : Nat} (hi : i < belowN n) (x : ByteArray) (p : List ByteArray) : climbV T x i n p = nodeV T (climbV T x i (belowN n) p.dropLast) (lastV p) := by rw [climbV, if_neg (by omega), if_pos hi]
theorem climbV_right {n : Nat} (h : 2 ≤ n) {i : Nat} (hi : ¬ i < belowN n) (x : ByteArray) (p : List ByteArray) : climbV T x i n p = nodeV T (lastV p) (climbV T x (i - belowN n) (n - belowN n) p.dropLast) := by rw [climbV, if_neg (by omega), if_neg hi]
theorem take_len {l : List ByteArray} (h : 2 ≤ l.length) : (l.take (belowN l.length)).length = belowN l.length := by have := below_lt h; rw [List.length_take]; omega
theorem depth_le : ∀ (d i n : Nat), n ≤ 2 ^ d → depthV i n ≤ d
  | d, i, n, h => by
    by_cases h2 : n < 2
    · rw [depthV_one h2]; omega
    cases d with
    | zero => simp at h; omega
    | succ d =>
      have := below_le (n := n) (d := d) (by omega) h
      by_cases hi : i < belowN n
      · rw [depthV_left (by omega) hi]; have := depth_le d i _ this.1; omega
      · rw [depthV_right (by omega) hi]; have := depth_le d (i - belowN n) _ this.2; omega
end
end Go.Proofs.Ytioagphpiflplaa.Pure
