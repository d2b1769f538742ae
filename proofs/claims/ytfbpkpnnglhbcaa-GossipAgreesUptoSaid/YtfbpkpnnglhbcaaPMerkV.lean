/- Plain laws: trees of sums as plain functions; what holds of them. -/
import Derived.Test.YtfbpkpnnglhbcaaPMill
namespace Go.Proofs.Ytfbpkpnnglhbcaa.Pure
open Go Go.Proofs.Ytfbpkpnnglhbcaa.E Go.Proofs.Ytfbpkpnnglhbcaa.Eng
set_option linter.unusedVariables false
set_option linter.unusedSimpArgs false
abbrev Tab := List (ByteArray × ByteArray)
def S32 (l : List ByteArray) : Prop := ∀ x ∈ l, x.size = 32
theorem S32.take {l : List ByteArray} (h : S32 l) (k : Nat) : S32 (l.take k) := fun x hx => h x (List.mem_of_mem_take hx)
theorem S32.drop {l : List ByteArray} (h : S32 l) (k : Nat) : S32 (l.drop k) := fun x hx => h x (List.mem_of_mem_drop hx)
theorem S32.dropLast {l : List ByteArray} (h : S32 l) : S32 l.dropLast := fun x hx => h x (List.dropLast_subset l hx)
theorem S32.app {a b : List ByteArray} (h : S32 a) (h' : S32 b) : S32 (a ++ b) := fun x hx => (List.mem_append.1 hx).elim (h x) (h' x)
theorem S32.one {x : ByteArray} (h : x.size = 32) : S32 [x] := fun y hy => by rw [List.mem_singleton.1 hy]; exact h
def lastV (l : List ByteArray) : ByteArray := l.getLastD ⟨#[]⟩
theorem lastV_mem {l : List ByteArray} (h : l.length ≠ 0) : lastV l ∈ l := by
 have hl : l ≠ [] := fun e => h (by rw [e]; rfl)
 unfold lastV
 rw [List.getLastD_eq_getLast?, List.getLast?_eq_some_getLast hl]
 exact List.getLast_mem hl
theorem S32.last {l : List ByteArray} (h : S32 l) (h' : l.length ≠ 0) : (lastV l).size = 32 := h _ (lastV_mem h')
theorem lastV_app (l : List ByteArray) (x : ByteArray) : lastV (l ++ [x]) = x := by unfold lastV; simp
section
variable (T : Tab)
noncomputable def rootV (l : List ByteArray) : ByteArray :=
 if l.length = 0 then noneV T else if l.length < 2 then l.headD ⟨#[]⟩ else nodeV T (rootV (l.take (belowN l.length))) (rootV (l.drop (belowN l.length)))
termination_by l.length
decreasing_by
 ·have := below_lt (n := l.length) (by omega); rw [List.length_take]; omega
 ·have := below_pos l.length; rw [List.length_drop]; omega
noncomputable def pathV (l : List ByteArray) (i : Nat) : List ByteArray :=
 if l.length < 2 then [] else if i < belowN l.length then pathV (l.take (belowN l.length)) i ++ [rootV T (l.drop (belowN l.length))] else pathV (l.drop (belowN l.length)) (i - belowN l.length) ++ [rootV T (l.take (belowN l.length))]
termination_by l.length
decreasing_by
 ·have := below_lt (n := l.length) (by omega); rw [List.length_take]; omega
 ·have := below_pos l.length; rw [List.length_drop]; omega
noncomputable def growV (l : List ByteArray) (a : Nat) (whole : Bool) : List ByteArray :=
 if a = l.length then (if whole = true then [] else [rootV T l]) else if l.length < 2 then [] else
 if a ≤ belowN l.length then growV (l.take (belowN l.length)) a whole ++ [rootV T (l.drop (belowN l.length))] else growV (l.drop (belowN l.length)) (a - belowN l.length) false ++ [rootV T (l.take (belowN l.length))]
termination_by l.length
decreasing_by
 ·have := below_lt (n := l.length) (by omega); rw [List.length_take]; omega
 ·have := below_pos l.length; rw [List.length_drop]; omega
def depthV (i n : Nat) : Nat := if n < 2 then 0 else if i < belowN n then 1 + depthV i (belowN n) else 1 + depthV (i - belowN n) (n - belowN n)
termination_by n
decreasing_by
 ·exact below_lt (n := n) (by omega)
 ·have := below_pos n; omega
noncomputable def climbV (leaf : ByteArray) (i n : Nat) (p : List ByteArray) : ByteArray :=
 if n < 2 then leaf else if i < belowN n then nodeV T (climbV leaf i (belowN n) p.dropLast) (lastV p) else nodeV T (lastV p) (climbV leaf (i - belowN n) (n - belowN n) p.dropLast)
termination_by n
decreasing_by
 ·exact below_lt (n := n) (by omega)
 ·have := below_pos n; omega
def longV (a n : Nat) (whole : Bool) : Nat :=
 if a = n then (if whole = true then 0 else 1) else if n < 2 then 1 else if a ≤ belowN n then 1 + longV a (belowN n) whole else 1 + longV (a - belowN n) (n - belowN n) false
termination_by n
decreasing_by
 ·exact below_lt (n := n) (by omega)
 ·have := below_pos n; omega
noncomputable def bothV (a n : Nat) (whole : Bool) (old : ByteArray) (p : List ByteArray) : ByteArray × ByteArray :=
 if a = n then (if whole = true then (old, old) else (lastV p, lastV p)) else if n < 2 then (lastV p, lastV p) else
 if a ≤ belowN n then ((bothV a (belowN n) whole old p.dropLast).1, nodeV T (bothV a (belowN n) whole old p.dropLast).2 (lastV p))
 else (nodeV T (lastV p) (bothV (a - belowN n) (n - belowN n) false ⟨#[]⟩ p.dropLast).1, nodeV T (lastV p) (bothV (a - belowN n) (n - belowN n) false ⟨#[]⟩ p.dropLast).2)
termination_by n
decreasing_by
 all_goals first
  | exact below_lt (n := n) (by omega)
  | (have := below_pos n; omega)
end
section
variable {T : Tab}
theorem rootV_nil {l : List ByteArray} (h : l.length = 0) : rootV T l = noneV T := by rw [rootV, if_pos h]
theorem rootV_one {l : List ByteArray} (h : l.length = 1) : rootV T l = l.headD ⟨#[]⟩ := by rw [rootV, if_neg (by omega), if_pos (by omega)]
theorem rootV_two {l : List ByteArray} (h : 2 ≤ l.length) : rootV T l = nodeV T (rootV T (l.take (belowN l.length))) (rootV T (l.drop (belowN l.length))) := by rw [rootV, if_neg (by omega), if_neg (by omega)]
theorem rootV_size (hT : Tok T) {l : List ByteArray} (h : S32 l) : (rootV T l).size = 32 := by
 by_cases h0 : l.length = 0
 ·rw [rootV_nil h0]; exact hashV_size hT _
 by_cases h1 : l.length = 1
 ·obtain ⟨x, rfl⟩ := List.length_eq_one_iff.1 h1
  rw [rootV_one h1]
  exact h x (List.mem_singleton.2 rfl)
 ·rw [rootV_two (by omega)]; exact hashV_size hT _
theorem growV_all (l : List ByteArray) : growV T l l.length true = [] := by rw [growV, if_pos rfl, if_pos rfl]
theorem growV_part (l : List ByteArray) : growV T l l.length false = [rootV T l] := by rw [growV, if_pos rfl, if_neg (by decide)]
theorem growV_left {l : List ByteArray} (h : 2 ≤ l.length) {a : Nat} {w : Bool} (hn : a ≠ l.length) (hi : a ≤ belowN l.length) : growV T l a w = growV T (l.take (belowN l.length)) a w ++ [rootV T (l.drop (belowN l.length))] := by rw [growV, if_neg hn, if_neg (by omega), if_pos hi]
theorem growV_right {l : List ByteArray} (h : 2 ≤ l.length) {a : Nat} {w : Bool} (hn : a ≠ l.length) (hi : ¬ a ≤ belowN l.length) : growV T l a w = growV T (l.drop (belowN l.length)) (a - belowN l.length) false ++ [rootV T (l.take (belowN l.length))] := by rw [growV, if_neg hn, if_neg (by omega), if_neg hi]
theorem longV_all (n : Nat) : longV n n true = 0 := by rw [longV, if_pos rfl, if_pos rfl]
theorem longV_part (n : Nat) : longV n n false = 1 := by rw [longV, if_pos rfl, if_neg (by decide)]
theorem longV_left {n : Nat} (h : 2 ≤ n) {a : Nat} {w : Bool} (hn : a ≠ n) (hi : a ≤ belowN n) : longV a n w = 1 + longV a (belowN n) w := by rw [longV, if_neg hn, if_neg (by omega), if_pos hi]
theorem longV_right {n : Nat} (h : 2 ≤ n) {a : Nat} {w : Bool} (hn : a ≠ n) (hi : ¬ a ≤ belowN n) : longV a n w = 1 + longV (a - belowN n) (n - belowN n) false := by rw [longV, if_neg hn, if_neg (by omega), if_neg hi]
theorem bothV_all (n : Nat) (x : ByteArray) (p : List ByteArray) : bothV T n n true x p = (x, x) := by rw [bothV, if_pos rfl, if_pos rfl]
theorem bothV_part (n : Nat) (x : ByteArray) (p : List ByteArray) : bothV T n n false x p = (lastV p, lastV p) := by rw [bothV, if_pos rfl, if_neg (by decide)]
theorem bothV_left {n : Nat} (h : 2 ≤ n) {a : Nat} {w : Bool} (hn : a ≠ n) (hi : a ≤ belowN n) (x : ByteArray) (p : List ByteArray) : bothV T a n w x p = ((bothV T a (belowN n) w x p.dropLast).1, nodeV T (bothV T a (belowN n) w x p.dropLast).2 (lastV p)) := by rw [bothV, if_neg hn, if_neg (by omega), if_pos hi]
theorem bothV_right {n : Nat} (h : 2 ≤ n) {a : Nat} {w : Bool} (hn : a ≠ n) (hi : ¬ a ≤ belowN n) (x : ByteArray) (p : List ByteArray) : bothV T a n w x p = (nodeV T (lastV p) (bothV T (a - belowN n) (n - belowN n) false ⟨#[]⟩ p.dropLast).1, nodeV T (lastV p) (bothV T (a - belowN n) (n - belowN n) false ⟨#[]⟩ p.dropLast).2) := by rw [bothV, if_neg hn, if_neg (by omega), if_neg hi]
theorem take_len {l : List ByteArray} (h : 2 ≤ l.length) : (l.take (belowN l.length)).length = belowN l.length := by have := below_lt h; rw [List.length_take]; omega
theorem long_le : ∀ (d a n : Nat) (w : Bool), n ≤ 2 ^ d → longV a n w ≤ d + 1
 | d, a, n, w, h => by
  by_cases ha : a = n
  ·subst ha; cases w with
   | true => rw [longV_all]; omega
   | false => rw [longV_part]; omega
  by_cases h2 : n < 2
  ·rw [longV, if_neg ha, if_pos h2]; omega
  cases d with
  | zero => simp at h; omega
  | succ d =>
   have := below_le (n := n) (d := d) (by omega) h
   by_cases hi : a ≤ belowN n
   ·rw [longV_left (by omega) ha hi]; have := long_le d a _ w this.1; omega
   ·rw [longV_right (by omega) ha hi]; have := long_le d (a - belowN n) _ false this.2; omega
theorem growV_s32 (hT : Tok T) : ∀ (m : Nat) (l : List ByteArray), l.length ≤ m → S32 l → ∀ a w, 1 ≤ a → a ≤ l.length → S32 (growV T l a w) ∧ (growV T l a w).length = longV a l.length w
 | m, l, hm, hl, a, w, h1, ha => by
  by_cases hn : a = l.length
  ·subst hn
   cases w with
   | true => rw [growV_all, longV_all]; exact ⟨(fun x hx => nomatch hx), rfl⟩
   | false => rw [growV_part, longV_part]; exact ⟨S32.one (rootV_size hT hl), rfl⟩
  have hlt := below_lt (n := l.length) (by omega)
  have hp := below_pos l.length
  have ht := take_len (l := l) (by omega)
  cases m with
  | zero => omega
  | succ m =>
   by_cases hi : a ≤ belowN l.length
   ·rw [growV_left (by omega) hn hi, longV_left (by omega) hn hi]
    have := growV_s32 hT m (l.take (belowN l.length)) (by omega) (hl.take _) a w h1 (by omega)
    refine ⟨this.1.app (S32.one (rootV_size hT (hl.drop _))), ?_⟩
    rw [List.length_append, this.2, ht]; simp only [List.length_cons, List.length_nil]; omega
   ·rw [growV_right (by omega) hn hi, longV_right (by omega) hn hi]
    have := growV_s32 hT m (l.drop (belowN l.length)) (by rw [List.length_drop]; omega) (hl.drop _) (a - belowN l.length) false (by omega) (by rw [List.length_drop]; omega)
    refine ⟨this.1.app (S32.one (rootV_size hT (hl.take _))), ?_⟩
    rw [List.length_append, this.2, List.length_drop]; simp only [List.length_cons, List.length_nil]; omega
theorem both_grow : ∀ (m : Nat) (l : List ByteArray), l.length ≤ m → ∀ (a : Nat) (w : Bool) (old : ByteArray), 1 ≤ a → a ≤ l.length → (w = true → old = rootV T (l.take a)) → bothV T a l.length w old (growV T l a w) = (rootV T (l.take a), rootV T l)
 | m, l, hm, a, w, old, h1, ha, ho => by
  by_cases hn : a = l.length
  ·subst hn
   rw [List.take_length] at ho ⊢
   cases w with
   | true => rw [bothV_all, ho rfl]
   | false => rw [growV_part, bothV_part]; rfl
  have hlt := below_lt (n := l.length) (by omega)
  have hp := below_pos l.length
  have hh := below_half (n := l.length) (by omega)
  have ht := take_len (l := l) (by omega)
  cases m with
  | zero => omega
  | succ m =>
   by_cases hi : a ≤ belowN l.length
   ·rw [growV_left (by omega) hn hi, bothV_left (by omega) hn hi, List.dropLast_concat, lastV_app]
    have e : (l.take (belowN l.length)).take a = l.take a := by rw [List.take_take, Nat.min_eq_left hi]
    have := both_grow m (l.take (belowN l.length)) (by omega) a w old h1 (by omega) (by rw [e]; exact ho)
    rw [e, ht] at this
    rw [this, rootV_two (l := l) (by omega)]
   ·rw [growV_right (by omega) hn hi, bothV_right (by omega) hn hi, List.dropLast_concat, lastV_app]
    have := both_grow m (l.drop (belowN l.length)) (by rw [List.length_drop]; omega) (a - belowN l.length) false ⟨#[]⟩ (by omega) (by rw [List.length_drop]; omega) (fun h => by cases h)
    rw [List.length_drop] at this
    rw [this, rootV_two (l := l) (by omega)]
    have hla : (l.take a).length = a := by rw [List.length_take]; omega
    have hb : belowN a = belowN l.length := by
     unfold belowN
     have e1 : Nat.log2 (l.length - 1) ≤ Nat.log2 (a - 1) := (Nat.le_log2 (by omega)).2 (by unfold belowN at hi; omega)
     have e2 : Nat.log2 (a - 1) ≤ Nat.log2 (l.length - 1) := (Nat.le_log2 (by omega)).2 (Nat.le_trans (Nat.log2_self_le (by omega)) (by omega))
     rw [Nat.le_antisymm e1 e2]
    rw [rootV_two (l := l.take a) (by omega), hla, hb, List.take_take, Nat.min_eq_left (by omega), List.drop_take]
end
end Go.Proofs.Ytfbpkpnnglhbcaa.Pure
