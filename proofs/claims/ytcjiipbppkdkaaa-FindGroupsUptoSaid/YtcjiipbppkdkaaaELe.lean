/- Laid by gen.py: with more rounds the functions come to the same. -/
import Derived.Test.YtcjiipbppkdkaaaEDefs
namespace Go.Proofs.Ytcjiipbppkdkaaa.E
open Go Go.Proofs.Ytcjiipbppkdkaaa.Eng
set_option linter.unusedVariables false
/-- What the one comes to, the other comes to. -/
structure Le {α : Type} (x y : Option α) : Prop where
  le : ∀ v, x = some v → y = some v
theorem Le.refl {α : Type} (x : Option α) : Le x x := ⟨fun _ h => h⟩
theorem Le.eqv {α : Type} {x y : Option α} (h : x = y) : Le x y := h ▸ Le.refl x
theorem Le.none {α : Type} (y : Option α) : Le none y := ⟨fun _ h => by cases h⟩
theorem Le.bind {α β : Type} {x y : Option α} {g h : α → Option β} (h1 : Le x y) (h2 : ∀ v, Le (g v) (h v)) : Le (x.bind g) (y.bind h) := ⟨fun v hv => by
  cases hx : x with
  | none => rw [hx] at hv; cases hv
  | some w => rw [hx] at hv; rw [h1.le w hx]; exact (h2 w).le v hv⟩
theorem Le.both {α : Type} {x y x' y' : Option α} (h1 : Le x x') (h2 : Le y y') : Le (bothE x y) (bothE x' y') := ⟨fun v hv => by
  obtain ⟨e1, e2⟩ := bothE_some hv
  rw [h1.le v e1, h2.le v e2]; exact bothE_same _⟩
theorem Le.cond {α : Type} {b : Bool} {x y x' y' : Option α} (h1 : Le x x') (h2 : Le y y') : Le (bif b then x else y) (bif b then x' else y') := by cases b; exact h2; exact h1
set_option maxRecDepth 100000 in
theorem value_nan.les (k : Nat) : (∀ a0, Le (value_nan.f k a0) (value_nan.f (k + 1) a0)) := by
  induction k with
  | zero => exact fun _ => Le.none _
  | succ k ih =>
    have h0 := ih
    exact fun _ => Le.refl _
set_option maxRecDepth 100000 in
theorem value_nan.le (k : Nat) : ∀ a0, Le (value_nan.f k a0) (value_nan.f (k + 1) a0) := value_nan.les k

set_option maxRecDepth 100000 in
theorem value_Clean.les (k : Nat) : (∀ a0, Le (value_Clean.f k a0) (value_Clean.f (k + 1) a0)) := by
  induction k with
  | zero => exact fun _ => Le.none _
  | succ k ih =>
    have h0 := ih
    exact fun _ => Le.cond (Le.refl _) (Le.cond (Le.refl _) (Le.cond (Le.bind (value_nan.le ..) fun _ => Le.cond (Le.refl _) (Le.refl _)) (Le.cond (Le.refl _) (Le.refl _))))
set_option maxRecDepth 100000 in
theorem value_Clean.le (k : Nat) : ∀ a0, Le (value_Clean.f k a0) (value_Clean.f (k + 1) a0) := value_Clean.les k

set_option maxRecDepth 100000 in
theorem value_Right.les (k : Nat) : (∀ a0, Le (value_Right.f k a0) (value_Right.f (k + 1) a0)) := by
  induction k with
  | zero => exact fun _ => Le.none _
  | succ k ih =>
    have h0 := ih
    exact fun _ => Le.cond (Le.cond (Le.cond (Le.bind (value_Clean.le ..) fun _ => Le.refl _) (Le.refl _)) (Le.refl _)) (Le.refl _)
set_option maxRecDepth 100000 in
theorem value_Right.le (k : Nat) : ∀ a0, Le (value_Right.f k a0) (value_Right.f (k + 1) a0) := value_Right.les k

set_option maxRecDepth 100000 in
theorem paper_sign.les (k : Nat) : (∀ a0, Le (paper_sign.f k a0) (paper_sign.f (k + 1) a0)) := by
  induction k with
  | zero => exact fun _ => Le.none _
  | succ k ih =>
    have h0 := ih
    exact fun _ => Le.refl _
set_option maxRecDepth 100000 in
theorem paper_sign.le (k : Nat) : ∀ a0, Le (paper_sign.f k a0) (paper_sign.f (k + 1) a0) := paper_sign.les k

set_option maxRecDepth 100000 in
theorem paper_word.les (k : Nat) : (∀ a0 a1, Le (paper_word.f k a0 a1) (paper_word.f (k + 1) a0 a1)) ∧ (∀ a0, Le (paper_word.j0 k a0) (paper_word.j0 (k + 1) a0)) ∧ (∀ a0 a1 a2, Le (paper_word.l0 k a0 a1 a2) (paper_word.l0 (k + 1) a0 a1 a2)) := by
  induction k with
  | zero => exact ⟨fun _ _ => Le.none _, fun _ => Le.none _, fun _ _ _ => Le.none _⟩
  | succ k ih =>
    obtain ⟨h0, h1, h2⟩ := ih
    exact ⟨fun _ _ => Le.cond (Le.refl _) (Le.cond (Le.refl _) (h1 ..)), fun _ => h2 .., fun _ _ _ => Le.cond (Le.bind (Le.refl _) fun _ => Le.bind (paper_sign.le ..) fun _ => Le.cond (Le.refl _) (h2 ..)) (Le.refl _)⟩
set_option maxRecDepth 100000 in
theorem paper_word.le (k : Nat) : ∀ a0 a1, Le (paper_word.f k a0 a1) (paper_word.f (k + 1) a0 a1) := (paper_word.les k).1

set_option maxRecDepth 100000 in
theorem paper_IsName.les (k : Nat) : (∀ a0, Le (paper_IsName.f k a0) (paper_IsName.f (k + 1) a0)) := by
  induction k with
  | zero => exact fun _ => Le.none _
  | succ k ih =>
    have h0 := ih
    exact fun _ => Le.bind (paper_word.le ..) fun _ => Le.refl _
set_option maxRecDepth 100000 in
theorem paper_IsName.le (k : Nat) : ∀ a0, Le (paper_IsName.f k a0) (paper_IsName.f (k + 1) a0) := paper_IsName.les k

set_option maxRecDepth 100000 in
theorem find_Check.les (k : Nat) : (∀ a0, Le (find_Check.f k a0) (find_Check.f (k + 1) a0)) ∧ (∀ a0 a1 a2 a3, Le (find_Check.j0 k a0 a1 a2 a3) (find_Check.j0 (k + 1) a0 a1 a2 a3)) ∧ (∀ a0 a1 a2, Le (find_Check.l0 k a0 a1 a2) (find_Check.l0 (k + 1) a0 a1 a2)) := by
  induction k with
  | zero => exact ⟨fun _ => Le.none _, fun _ _ _ _ => Le.none _, fun _ _ _ => Le.none _⟩
  | succ k ih =>
    obtain ⟨h0, h1, h2⟩ := ih
    exact ⟨fun _ => Le.cond (Le.refl _) (Le.cond (Le.refl _) (Le.cond (Le.bind (paper_IsName.le ..) fun _ => Le.cond (Le.refl _) (h1 ..)) (h1 ..))), fun _ _ _ _ => h2 .., fun _ _ _ => Le.cond (Le.bind (Le.refl _) fun _ => Le.bind (paper_IsName.le ..) fun _ => Le.cond (Le.refl _) (Le.cond (Le.bind (value_Right.le ..) fun _ => Le.cond (Le.refl _) (Le.cond (Le.bind (value_Right.le ..) fun _ => Le.cond (Le.refl _) (h2 ..)) (h2 ..))) (Le.cond (Le.bind (value_Right.le ..) fun _ => Le.cond (Le.refl _) (h2 ..)) (h2 ..)))) (Le.refl _)⟩
set_option maxRecDepth 100000 in
theorem find_Check.le (k : Nat) : ∀ a0, Le (find_Check.f k a0) (find_Check.f (k + 1) a0) := (find_Check.les k).1

set_option maxRecDepth 100000 in
theorem paper_Find_1_v0.les (k : Nat) : (∀ a0 a1, Le (paper_Find_1_v0.f k a0 a1) (paper_Find_1_v0.f (k + 1) a0 a1)) := by
  induction k with
  | zero => exact fun _ _ => Le.none _
  | succ k ih =>
    have h0 := ih
    exact fun _ _ => Le.refl _
set_option maxRecDepth 100000 in
theorem paper_Find_1_v0.le (k : Nat) : ∀ a0 a1, Le (paper_Find_1_v0.f k a0 a1) (paper_Find_1_v0.f (k + 1) a0 a1) := paper_Find_1_v0.les k

set_option maxRecDepth 100000 in
theorem slices_IndexFunc_api_Field_v0.les (k : Nat) : (∀ a0 a1, Le (slices_IndexFunc_api_Field_v0.f k a0 a1) (slices_IndexFunc_api_Field_v0.f (k + 1) a0 a1)) ∧ (∀ a0 a1 a2 a3, Le (slices_IndexFunc_api_Field_v0.l0 k a0 a1 a2 a3) (slices_IndexFunc_api_Field_v0.l0 (k + 1) a0 a1 a2 a3)) := by
  induction k with
  | zero => exact ⟨fun _ _ => Le.none _, fun _ _ _ _ => Le.none _⟩
  | succ k ih =>
    obtain ⟨h0, h1⟩ := ih
    exact ⟨fun _ _ => h1 .., fun _ _ _ _ => Le.cond (Le.bind (Le.refl _) fun _ => Le.bind (paper_Find_1_v0.le ..) fun _ => Le.cond (Le.refl _) (h1 ..)) (Le.refl _)⟩
set_option maxRecDepth 100000 in
theorem slices_IndexFunc_api_Field_v0.le (k : Nat) : ∀ a0 a1, Le (slices_IndexFunc_api_Field_v0.f k a0 a1) (slices_IndexFunc_api_Field_v0.f (k + 1) a0 a1) := (slices_IndexFunc_api_Field_v0.les k).1

set_option maxRecDepth 100000 in
theorem paper_Find.les (k : Nat) : (∀ a0 a1, Le (paper_Find.f k a0 a1) (paper_Find.f (k + 1) a0 a1)) := by
  induction k with
  | zero => exact fun _ _ => Le.none _
  | succ k ih =>
    have h0 := ih
    exact fun _ _ => Le.bind (slices_IndexFunc_api_Field_v0.le ..) fun _ => Le.refl _
set_option maxRecDepth 100000 in
theorem paper_Find.le (k : Nat) : ∀ a0 a1, Le (paper_Find.f k a0 a1) (paper_Find.f (k + 1) a0 a1) := paper_Find.les k

set_option maxRecDepth 100000 in
theorem value_sign.les (k : Nat) : (∀ a0 a1, Le (value_sign.f k a0 a1) (value_sign.f (k + 1) a0 a1)) := by
  induction k with
  | zero => exact fun _ _ => Le.none _
  | succ k ih =>
    have h0 := ih
    exact fun _ _ => Le.refl _
set_option maxRecDepth 100000 in
theorem value_sign.le (k : Nat) : ∀ a0 a1, Le (value_sign.f k a0 a1) (value_sign.f (k + 1) a0 a1) := value_sign.les k

set_option maxRecDepth 100000 in
theorem value_rank.les (k : Nat) : (∀ a0, Le (value_rank.f k a0) (value_rank.f (k + 1) a0)) := by
  induction k with
  | zero => exact fun _ => Le.none _
  | succ k ih =>
    have h0 := ih
    exact fun _ => Le.refl _
set_option maxRecDepth 100000 in
theorem value_rank.le (k : Nat) : ∀ a0, Le (value_rank.f k a0) (value_rank.f (k + 1) a0) := value_rank.les k

set_option maxRecDepth 100000 in
theorem bytealg_CompareString.les (k : Nat) : (∀ a0 a1, Le (bytealg_CompareString.f k a0 a1) (bytealg_CompareString.f (k + 1) a0 a1)) := by
  induction k with
  | zero => exact fun _ _ => Le.none _
  | succ k ih =>
    have h0 := ih
    exact fun _ _ => Le.refl _
set_option maxRecDepth 100000 in
theorem bytealg_CompareString.le (k : Nat) : ∀ a0 a1, Le (bytealg_CompareString.f k a0 a1) (bytealg_CompareString.f (k + 1) a0 a1) := bytealg_CompareString.les k

set_option maxRecDepth 100000 in
theorem strings_Compare.les (k : Nat) : (∀ a0 a1, Le (strings_Compare.f k a0 a1) (strings_Compare.f (k + 1) a0 a1)) := by
  induction k with
  | zero => exact fun _ _ => Le.none _
  | succ k ih =>
    have h0 := ih
    exact fun _ _ => Le.bind (bytealg_CompareString.le ..) fun _ => Le.refl _
set_option maxRecDepth 100000 in
theorem strings_Compare.le (k : Nat) : ∀ a0 a1, Le (strings_Compare.f k a0 a1) (strings_Compare.f (k + 1) a0 a1) := strings_Compare.les k

set_option maxRecDepth 100000 in
theorem value_Compare.les (k : Nat) : (∀ a0 a1, Le (value_Compare.f k a0 a1) (value_Compare.f (k + 1) a0 a1)) := by
  induction k with
  | zero => exact fun _ _ => Le.none _
  | succ k ih =>
    have h0 := ih
    exact fun _ _ => Le.cond (Le.bind (value_sign.le ..) fun _ => Le.refl _) (Le.cond (Le.cond (Le.cond (Le.bind (value_sign.le ..) fun _ => Le.refl _) (Le.bind (value_sign.le ..) fun _ => Le.refl _)) (Le.cond (Le.bind (value_sign.le ..) fun _ => Le.refl _) (Le.bind (value_sign.le ..) fun _ => Le.refl _))) (Le.cond (Le.bind (value_sign.le ..) fun _ => Le.refl _) (Le.cond (Le.bind (value_Clean.le ..) fun _ => Le.bind (value_rank.le ..) fun _ => Le.bind (value_Clean.le ..) fun _ => Le.bind (value_rank.le ..) fun _ => Le.bind (value_sign.le ..) fun _ => Le.refl _) (Le.cond (Le.bind (strings_Compare.le ..) fun _ => Le.refl _) (Le.refl _)))))
set_option maxRecDepth 100000 in
theorem value_Compare.le (k : Nat) : ∀ a0 a1, Le (value_Compare.f k a0 a1) (value_Compare.f (k + 1) a0 a1) := value_Compare.les k

set_option maxRecDepth 100000 in
theorem find_between.les (k : Nat) : (∀ a0 a1, Le (find_between.f k a0 a1) (find_between.f (k + 1) a0 a1)) ∧ (∀ a0 a1 a2 a3 a4 a5 a6 a7 a8 a9 a10, Le (find_between.j0 k a0 a1 a2 a3 a4 a5 a6 a7 a8 a9 a10) (find_between.j0 (k + 1) a0 a1 a2 a3 a4 a5 a6 a7 a8 a9 a10)) := by
  induction k with
  | zero => exact ⟨fun _ _ => Le.none _, fun _ _ _ _ _ _ _ _ _ _ _ => Le.none _⟩
  | succ k ih =>
    obtain ⟨h0, h1⟩ := ih
    exact ⟨fun _ _ => Le.cond (Le.cond (Le.refl _) (Le.bind (value_Compare.le ..) fun _ => Le.cond (Le.refl _) (h1 ..))) (h1 ..), fun _ _ _ _ _ _ _ _ _ _ _ => Le.cond (Le.refl _) (Le.cond (Le.bind (value_Compare.le ..) fun _ => Le.refl _) (Le.refl _))⟩
set_option maxRecDepth 100000 in
theorem find_between.le (k : Nat) : ∀ a0 a1, Le (find_between.f k a0 a1) (find_between.f (k + 1) a0 a1) := (find_between.les k).1

set_option maxRecDepth 100000 in
theorem find_Holds.les (k : Nat) : (∀ a0 a1, Le (find_Holds.f k a0 a1) (find_Holds.f (k + 1) a0 a1)) := by
  induction k with
  | zero => exact fun _ _ => Le.none _
  | succ k ih =>
    have h0 := ih
    exact fun _ _ => Le.bind (paper_Find.le ..) fun _ => Le.cond (Le.bind (Le.refl _) fun _ => Le.bind (find_between.le ..) fun _ => Le.refl _) (Le.refl _)
set_option maxRecDepth 100000 in
theorem find_Holds.le (k : Nat) : ∀ a0 a1, Le (find_Holds.f k a0 a1) (find_Holds.f (k + 1) a0 a1) := find_Holds.les k

set_option maxRecDepth 100000 in
theorem find_by.les (k : Nat) : (∀ a0 a1, Le (find_by.f k a0 a1) (find_by.f (k + 1) a0 a1)) := by
  induction k with
  | zero => exact fun _ _ => Le.none _
  | succ k ih =>
    have h0 := ih
    exact fun _ _ => Le.bind (paper_Find.le ..) fun _ => Le.cond (Le.refl _) (Le.bind (Le.refl _) fun _ => Le.refl _)
set_option maxRecDepth 100000 in
theorem find_by.le (k : Nat) : ∀ a0 a1, Le (find_by.f k a0 a1) (find_by.f (k + 1) a0 a1) := find_by.les k

set_option maxRecDepth 100000 in
theorem find_compare.les (k : Nat) : (∀ a0 a1 a2 a3, Le (find_compare.f k a0 a1 a2 a3) (find_compare.f (k + 1) a0 a1 a2 a3)) := by
  induction k with
  | zero => exact fun _ _ _ _ => Le.none _
  | succ k ih =>
    have h0 := ih
    exact fun _ _ _ _ => Le.bind (find_by.le ..) fun _ => Le.bind (find_by.le ..) fun _ => Le.cond (Le.cond (Le.refl _) (Le.cond (Le.refl _) (Le.cond (Le.refl _) (Le.cond (Le.bind (value_Compare.le ..) fun _ => Le.refl _) (Le.bind (value_Compare.le ..) fun _ => Le.refl _))))) (Le.cond (Le.refl _) (Le.cond (Le.refl _) (Le.cond (Le.bind (value_Compare.le ..) fun _ => Le.refl _) (Le.bind (value_Compare.le ..) fun _ => Le.refl _))))
set_option maxRecDepth 100000 in
theorem find_compare.le (k : Nat) : ∀ a0 a1 a2 a3, Le (find_compare.f k a0 a1 a2 a3) (find_compare.f (k + 1) a0 a1 a2 a3) := find_compare.les k

set_option maxRecDepth 100000 in
theorem find_Run_1_v0.les (k : Nat) : (∀ a0 a1 a2 a3 a4 a5 a6, Le (find_Run_1_v0.f k a0 a1 a2 a3 a4 a5 a6) (find_Run_1_v0.f (k + 1) a0 a1 a2 a3 a4 a5 a6)) := by
  induction k with
  | zero => exact fun _ _ _ _ _ _ _ => Le.none _
  | succ k ih =>
    have h0 := ih
    exact fun _ _ _ _ _ _ _ => Le.bind (Le.refl _) fun _ => Le.bind (Le.refl _) fun _ => Le.bind (find_compare.le ..) fun _ => Le.refl _
set_option maxRecDepth 100000 in
theorem find_Run_1_v0.le (k : Nat) : ∀ a0 a1 a2 a3 a4 a5 a6, Le (find_Run_1_v0.f k a0 a1 a2 a3 a4 a5 a6) (find_Run_1_v0.f (k + 1) a0 a1 a2 a3 a4 a5 a6) := find_Run_1_v0.les k

set_option maxRecDepth 100000 in
theorem slices_insertionSortCmpFunc_int_v0.les (k : Nat) : (∀ a0 a1 a2 a3 a4 a5 a6 a7, Le (slices_insertionSortCmpFunc_int_v0.f k a0 a1 a2 a3 a4 a5 a6 a7) (slices_insertionSortCmpFunc_int_v0.f (k + 1) a0 a1 a2 a3 a4 a5 a6 a7)) ∧ (∀ a0 a1 a2 a3 a4 a5 a6 a7 a8, Le (slices_insertionSortCmpFunc_int_v0.l0 k a0 a1 a2 a3 a4 a5 a6 a7 a8) (slices_insertionSortCmpFunc_int_v0.l0 (k + 1) a0 a1 a2 a3 a4 a5 a6 a7 a8)) ∧ (∀ a0 a1 a2 a3 a4 a5 a6 a7 a8 a9, Le (slices_insertionSortCmpFunc_int_v0.l1 k a0 a1 a2 a3 a4 a5 a6 a7 a8 a9) (slices_insertionSortCmpFunc_int_v0.l1 (k + 1) a0 a1 a2 a3 a4 a5 a6 a7 a8 a9)) := by
  induction k with
  | zero => exact ⟨fun _ _ _ _ _ _ _ _ => Le.none _, fun _ _ _ _ _ _ _ _ _ => Le.none _, fun _ _ _ _ _ _ _ _ _ _ => Le.none _⟩
  | succ k ih =>
    obtain ⟨h0, h1, h2⟩ := ih
    exact ⟨fun _ _ _ _ _ _ _ _ => h1 .., fun _ _ _ _ _ _ _ _ _ => Le.cond (h2 ..) (Le.refl _), fun _ _ _ _ _ _ _ _ _ _ => Le.cond (Le.bind (Le.refl _) fun _ => Le.bind (Le.refl _) fun _ => Le.bind (Le.refl _) fun _ => Le.bind (Le.refl _) fun _ => Le.bind (find_Run_1_v0.le ..) fun _ => Le.cond (Le.bind (Le.refl _) fun _ => Le.bind (Le.refl _) fun _ => Le.bind (Le.refl _) fun _ => Le.bind (Le.refl _) fun _ => Le.bind (Le.refl _) fun _ => Le.bind (Le.refl _) fun _ => h2 ..) (h1 ..)) (h1 ..)⟩
set_option maxRecDepth 100000 in
theorem slices_insertionSortCmpFunc_int_v0.le (k : Nat) : ∀ a0 a1 a2 a3 a4 a5 a6 a7, Le (slices_insertionSortCmpFunc_int_v0.f k a0 a1 a2 a3 a4 a5 a6 a7) (slices_insertionSortCmpFunc_int_v0.f (k + 1) a0 a1 a2 a3 a4 a5 a6 a7) := (slices_insertionSortCmpFunc_int_v0.les k).1

set_option maxRecDepth 100000 in
theorem slices_swapRangeCmpFunc_int_v0.les (k : Nat) : (∀ a0 a1 a2 a3 a4 a5 a6 a7 a8, Le (slices_swapRangeCmpFunc_int_v0.f k a0 a1 a2 a3 a4 a5 a6 a7 a8) (slices_swapRangeCmpFunc_int_v0.f (k + 1) a0 a1 a2 a3 a4 a5 a6 a7 a8)) ∧ (∀ a0 a1 a2 a3 a4 a5 a6 a7 a8 a9, Le (slices_swapRangeCmpFunc_int_v0.l0 k a0 a1 a2 a3 a4 a5 a6 a7 a8 a9) (slices_swapRangeCmpFunc_int_v0.l0 (k + 1) a0 a1 a2 a3 a4 a5 a6 a7 a8 a9)) := by
  induction k with
  | zero => exact ⟨fun _ _ _ _ _ _ _ _ _ => Le.none _, fun _ _ _ _ _ _ _ _ _ _ => Le.none _⟩
  | succ k ih =>
    obtain ⟨h0, h1⟩ := ih
    exact ⟨fun _ _ _ _ _ _ _ _ _ => h1 .., fun _ _ _ _ _ _ _ _ _ _ => Le.cond (Le.bind (Le.refl _) fun _ => Le.bind (Le.refl _) fun _ => Le.bind (Le.refl _) fun _ => Le.bind (Le.refl _) fun _ => Le.bind (Le.refl _) fun _ => Le.bind (Le.refl _) fun _ => h1 ..) (Le.refl _)⟩
set_option maxRecDepth 100000 in
theorem slices_swapRangeCmpFunc_int_v0.le (k : Nat) : ∀ a0 a1 a2 a3 a4 a5 a6 a7 a8, Le (slices_swapRangeCmpFunc_int_v0.f k a0 a1 a2 a3 a4 a5 a6 a7 a8) (slices_swapRangeCmpFunc_int_v0.f (k + 1) a0 a1 a2 a3 a4 a5 a6 a7 a8) := (slices_swapRangeCmpFunc_int_v0.les k).1

set_option maxRecDepth 100000 in
theorem slices_rotateCmpFunc_int_v0.les (k : Nat) : (∀ a0 a1 a2 a3 a4 a5 a6 a7 a8, Le (slices_rotateCmpFunc_int_v0.f k a0 a1 a2 a3 a4 a5 a6 a7 a8) (slices_rotateCmpFunc_int_v0.f (k + 1) a0 a1 a2 a3 a4 a5 a6 a7 a8)) ∧ (∀ a0 a1 a2 a3 a4 a5 a6 a7 a8, Le (slices_rotateCmpFunc_int_v0.l0 k a0 a1 a2 a3 a4 a5 a6 a7 a8) (slices_rotateCmpFunc_int_v0.l0 (k + 1) a0 a1 a2 a3 a4 a5 a6 a7 a8)) := by
  induction k with
  | zero => exact ⟨fun _ _ _ _ _ _ _ _ _ => Le.none _, fun _ _ _ _ _ _ _ _ _ => Le.none _⟩
  | succ k ih =>
    obtain ⟨h0, h1⟩ := ih
    exact ⟨fun _ _ _ _ _ _ _ _ _ => h1 .., fun _ _ _ _ _ _ _ _ _ => Le.cond (Le.cond (Le.bind (slices_swapRangeCmpFunc_int_v0.le ..) fun _ => h1 ..) (Le.bind (slices_swapRangeCmpFunc_int_v0.le ..) fun _ => h1 ..)) (Le.bind (slices_swapRangeCmpFunc_int_v0.le ..) fun _ => Le.refl _)⟩
set_option maxRecDepth 100000 in
theorem slices_rotateCmpFunc_int_v0.le (k : Nat) : ∀ a0 a1 a2 a3 a4 a5 a6 a7 a8, Le (slices_rotateCmpFunc_int_v0.f k a0 a1 a2 a3 a4 a5 a6 a7 a8) (slices_rotateCmpFunc_int_v0.f (k + 1) a0 a1 a2 a3 a4 a5 a6 a7 a8) := (slices_rotateCmpFunc_int_v0.les k).1

set_option maxRecDepth 100000 in
theorem slices_symMergeCmpFunc_int_v0.les (k : Nat) : (∀ a0 a1 a2 a3 a4 a5 a6 a7 a8, Le (slices_symMergeCmpFunc_int_v0.f k a0 a1 a2 a3 a4 a5 a6 a7 a8) (slices_symMergeCmpFunc_int_v0.f (k + 1) a0 a1 a2 a3 a4 a5 a6 a7 a8)) ∧ (∀ a0 a1 a2 a3 a4 a5 a6 a7 a8, Le (slices_symMergeCmpFunc_int_v0.l0 k a0 a1 a2 a3 a4 a5 a6 a7 a8) (slices_symMergeCmpFunc_int_v0.l0 (k + 1) a0 a1 a2 a3 a4 a5 a6 a7 a8)) ∧ (∀ a0 a1 a2 a3 a4 a5 a6 a7, Le (slices_symMergeCmpFunc_int_v0.l2 k a0 a1 a2 a3 a4 a5 a6 a7) (slices_symMergeCmpFunc_int_v0.l2 (k + 1) a0 a1 a2 a3 a4 a5 a6 a7)) ∧ (∀ a0 a1 a2 a3 a4 a5 a6 a7 a8, Le (slices_symMergeCmpFunc_int_v0.l1 k a0 a1 a2 a3 a4 a5 a6 a7 a8) (slices_symMergeCmpFunc_int_v0.l1 (k + 1) a0 a1 a2 a3 a4 a5 a6 a7 a8)) ∧ (∀ a0 a1 a2 a3 a4 a5 a6 a7, Le (slices_symMergeCmpFunc_int_v0.l3 k a0 a1 a2 a3 a4 a5 a6 a7) (slices_symMergeCmpFunc_int_v0.l3 (k + 1) a0 a1 a2 a3 a4 a5 a6 a7)) ∧ (∀ a0 a1 a2 a3 a4 a5 a6 a7 a8 a9 a10 a11 a12, Le (slices_symMergeCmpFunc_int_v0.j0 k a0 a1 a2 a3 a4 a5 a6 a7 a8 a9 a10 a11 a12) (slices_symMergeCmpFunc_int_v0.j0 (k + 1) a0 a1 a2 a3 a4 a5 a6 a7 a8 a9 a10 a11 a12)) ∧ (∀ a0 a1 a2 a3 a4 a5 a6 a7 a8 a9 a10 a11 a12 a13, Le (slices_symMergeCmpFunc_int_v0.l4 k a0 a1 a2 a3 a4 a5 a6 a7 a8 a9 a10 a11 a12 a13) (slices_symMergeCmpFunc_int_v0.l4 (k + 1) a0 a1 a2 a3 a4 a5 a6 a7 a8 a9 a10 a11 a12 a13)) ∧ (∀ a0 a1 a2 a3 a4 a5 a6 a7 a8 a9 a10, Le (slices_symMergeCmpFunc_int_v0.j1 k a0 a1 a2 a3 a4 a5 a6 a7 a8 a9 a10) (slices_symMergeCmpFunc_int_v0.j1 (k + 1) a0 a1 a2 a3 a4 a5 a6 a7 a8 a9 a10)) ∧ (∀ a0 a1 a2 a3 a4 a5 a6 a7 a8, Le (slices_symMergeCmpFunc_int_v0.j2 k a0 a1 a2 a3 a4 a5 a6 a7 a8) (slices_symMergeCmpFunc_int_v0.j2 (k + 1) a0 a1 a2 a3 a4 a5 a6 a7 a8)) := by
  induction k with
  | zero => exact ⟨fun _ _ _ _ _ _ _ _ _ => Le.none _, fun _ _ _ _ _ _ _ _ _ => Le.none _, fun _ _ _ _ _ _ _ _ => Le.none _, fun _ _ _ _ _ _ _ _ _ => Le.none _, fun _ _ _ _ _ _ _ _ => Le.none _, fun _ _ _ _ _ _ _ _ _ _ _ _ _ => Le.none _, fun _ _ _ _ _ _ _ _ _ _ _ _ _ _ => Le.none _, fun _ _ _ _ _ _ _ _ _ _ _ => Le.none _, fun _ _ _ _ _ _ _ _ _ => Le.none _⟩
  | succ k ih =>
    obtain ⟨h0, h1, h2, h3, h4, h5, h6, h7, h8⟩ := ih
    exact ⟨fun _ _ _ _ _ _ _ _ _ => Le.cond (h1 ..) (Le.cond (h3 ..) ((by first | exact Le.bind (Le.refl _) (fun _ => Le.cond (h5 ..) (h5 ..)) | exact Le.cond (h5 ..) (h5 ..)))), fun _ _ _ _ _ _ _ _ _ => Le.cond ((by first | exact Le.bind (Le.refl _) (fun _ => Le.bind (Le.refl _) fun _ => Le.bind (Le.refl _) fun _ => Le.bind (Le.refl _) fun _ => Le.bind (Le.refl _) fun _ => Le.bind (find_Run_1_v0.le ..) fun _ => Le.cond (h1 ..) (h1 ..)) | exact Le.bind (Le.refl _) fun _ => Le.bind (Le.refl _) fun _ => Le.bind (Le.refl _) fun _ => Le.bind (Le.refl _) fun _ => Le.bind (find_Run_1_v0.le ..) fun _ => Le.cond (h1 ..) (h1 ..))) (h2 ..), fun _ _ _ _ _ _ _ _ => Le.cond (Le.bind (Le.refl _) fun _ => Le.bind (Le.refl _) fun _ => Le.bind (Le.refl _) fun _ => Le.bind (Le.refl _) fun _ => Le.bind (Le.refl _) fun _ => Le.bind (Le.refl _) fun _ => h2 ..) (Le.refl _), fun _ _ _ _ _ _ _ _ _ => Le.cond ((by first | exact Le.bind (Le.refl _) (fun _ => Le.bind (Le.refl _) fun _ => Le.bind (Le.refl _) fun _ => Le.bind (Le.refl _) fun _ => Le.bind (Le.refl _) fun _ => Le.bind (find_Run_1_v0.le ..) fun _ => Le.cond (h3 ..) (h3 ..)) | exact Le.bind (Le.refl _) fun _ => Le.bind (Le.refl _) fun _ => Le.bind (Le.refl _) fun _ => Le.bind (Le.refl _) fun _ => Le.bind (find_Run_1_v0.le ..) fun _ => Le.cond (h3 ..) (h3 ..))) (h4 ..), fun _ _ _ _ _ _ _ _ => Le.cond (Le.bind (Le.refl _) fun _ => Le.bind (Le.refl _) fun _ => Le.bind (Le.refl _) fun _ => Le.bind (Le.refl _) fun _ => Le.bind (Le.refl _) fun _ => Le.bind (Le.refl _) fun _ => h4 ..) (Le.refl _), fun _ _ _ _ _ _ _ _ _ _ _ _ _ => h6 .., fun _ _ _ _ _ _ _ _ _ _ _ _ _ _ => Le.cond ((by first | exact Le.bind (Le.refl _) (fun _ => Le.bind (Le.refl _) fun _ => Le.bind (Le.refl _) fun _ => Le.bind (Le.refl _) fun _ => Le.bind (Le.refl _) fun _ => Le.bind (find_Run_1_v0.le ..) fun _ => Le.cond (h6 ..) (h6 ..)) | exact Le.bind (Le.refl _) fun _ => Le.bind (Le.refl _) fun _ => Le.bind (Le.refl _) fun _ => Le.bind (Le.refl _) fun _ => Le.bind (find_Run_1_v0.le ..) fun _ => Le.cond (h6 ..) (h6 ..))) (Le.cond (Le.cond (Le.bind (slices_rotateCmpFunc_int_v0.le ..) fun _ => h7 ..) (h7 ..)) (h7 ..)), fun _ _ _ _ _ _ _ _ _ _ _ => Le.cond (Le.cond (Le.bind (h0 ..) fun _ => h8 ..) (h8 ..)) (h8 ..), fun _ _ _ _ _ _ _ _ _ => Le.cond (Le.cond (Le.bind (h0 ..) fun _ => Le.refl _) (Le.refl _)) (Le.refl _)⟩
set_option maxRecDepth 100000 in
theorem slices_symMergeCmpFunc_int_v0.le (k : Nat) : ∀ a0 a1 a2 a3 a4 a5 a6 a7 a8, Le (slices_symMergeCmpFunc_int_v0.f k a0 a1 a2 a3 a4 a5 a6 a7 a8) (slices_symMergeCmpFunc_int_v0.f (k + 1) a0 a1 a2 a3 a4 a5 a6 a7 a8) := (slices_symMergeCmpFunc_int_v0.les k).1

set_option maxRecDepth 100000 in
theorem slices_stableCmpFunc_int_v0.les (k : Nat) : (∀ a0 a1 a2 a3 a4 a5 a6, Le (slices_stableCmpFunc_int_v0.f k a0 a1 a2 a3 a4 a5 a6) (slices_stableCmpFunc_int_v0.f (k + 1) a0 a1 a2 a3 a4 a5 a6)) ∧ (∀ a0 a1 a2 a3 a4 a5 a6 a7 a8 a9, Le (slices_stableCmpFunc_int_v0.l0 k a0 a1 a2 a3 a4 a5 a6 a7 a8 a9) (slices_stableCmpFunc_int_v0.l0 (k + 1) a0 a1 a2 a3 a4 a5 a6 a7 a8 a9)) ∧ (∀ a0 a1 a2 a3 a4 a5 a6 a7, Le (slices_stableCmpFunc_int_v0.l1 k a0 a1 a2 a3 a4 a5 a6 a7) (slices_stableCmpFunc_int_v0.l1 (k + 1) a0 a1 a2 a3 a4 a5 a6 a7)) ∧ (∀ a0 a1 a2 a3 a4 a5 a6 a7 a8 a9, Le (slices_stableCmpFunc_int_v0.l2 k a0 a1 a2 a3 a4 a5 a6 a7 a8 a9) (slices_stableCmpFunc_int_v0.l2 (k + 1) a0 a1 a2 a3 a4 a5 a6 a7 a8 a9)) := by
  induction k with
  | zero => exact ⟨fun _ _ _ _ _ _ _ => Le.none _, fun _ _ _ _ _ _ _ _ _ _ => Le.none _, fun _ _ _ _ _ _ _ _ => Le.none _, fun _ _ _ _ _ _ _ _ _ _ => Le.none _⟩
  | succ k ih =>
    obtain ⟨h0, h1, h2, h3⟩ := ih
    exact ⟨fun _ _ _ _ _ _ _ => h1 .., fun _ _ _ _ _ _ _ _ _ _ => Le.cond (Le.bind (slices_insertionSortCmpFunc_int_v0.le ..) fun _ => h1 ..) (Le.bind (slices_insertionSortCmpFunc_int_v0.le ..) fun _ => h2 ..), fun _ _ _ _ _ _ _ _ => Le.cond (h3 ..) (Le.refl _), fun _ _ _ _ _ _ _ _ _ _ => Le.cond (Le.bind (slices_symMergeCmpFunc_int_v0.le ..) fun _ => h3 ..) (Le.cond (Le.bind (slices_symMergeCmpFunc_int_v0.le ..) fun _ => h2 ..) (h2 ..))⟩
set_option maxRecDepth 100000 in
theorem slices_stableCmpFunc_int_v0.le (k : Nat) : ∀ a0 a1 a2 a3 a4 a5 a6, Le (slices_stableCmpFunc_int_v0.f k a0 a1 a2 a3 a4 a5 a6) (slices_stableCmpFunc_int_v0.f (k + 1) a0 a1 a2 a3 a4 a5 a6) := (slices_stableCmpFunc_int_v0.les k).1

set_option maxRecDepth 100000 in
theorem slices_SortStableFunc__int_int_v0.les (k : Nat) : (∀ a0 a1 a2 a3 a4 a5, Le (slices_SortStableFunc__int_int_v0.f k a0 a1 a2 a3 a4 a5) (slices_SortStableFunc__int_int_v0.f (k + 1) a0 a1 a2 a3 a4 a5)) := by
  induction k with
  | zero => exact fun _ _ _ _ _ _ => Le.none _
  | succ k ih =>
    have h0 := ih
    exact fun _ _ _ _ _ _ => Le.bind (slices_stableCmpFunc_int_v0.le ..) fun _ => Le.refl _
set_option maxRecDepth 100000 in
theorem slices_SortStableFunc__int_int_v0.le (k : Nat) : ∀ a0 a1 a2 a3 a4 a5, Le (slices_SortStableFunc__int_int_v0.f k a0 a1 a2 a3 a4 a5) (slices_SortStableFunc__int_int_v0.f (k + 1) a0 a1 a2 a3 a4 a5) := slices_SortStableFunc__int_int_v0.les k

set_option maxRecDepth 100000 in
theorem find_Run.les (k : Nat) : (∀ a0 a1, Le (find_Run.f k a0 a1) (find_Run.f (k + 1) a0 a1)) ∧ (∀ a0 a1 a2 a3 a4 a5 a6 a7 a8, Le (find_Run.l0 k a0 a1 a2 a3 a4 a5 a6 a7 a8) (find_Run.l0 (k + 1) a0 a1 a2 a3 a4 a5 a6 a7 a8)) ∧ (∀ a0 a1 a2 a3 a4 a5 a6 a7 a8 a9 a10 a11 a12 a13 a14 a15, Le (find_Run.l1 k a0 a1 a2 a3 a4 a5 a6 a7 a8 a9 a10 a11 a12 a13 a14 a15) (find_Run.l1 (k + 1) a0 a1 a2 a3 a4 a5 a6 a7 a8 a9 a10 a11 a12 a13 a14 a15)) ∧ (∀ a0 a1 a2 a3 a4, Le (find_Run.j0 k a0 a1 a2 a3 a4) (find_Run.j0 (k + 1) a0 a1 a2 a3 a4)) := by
  induction k with
  | zero => exact ⟨fun _ _ => Le.none _, fun _ _ _ _ _ _ _ _ _ => Le.none _, fun _ _ _ _ _ _ _ _ _ _ _ _ _ _ _ _ => Le.none _, fun _ _ _ _ _ => Le.none _⟩
  | succ k ih =>
    obtain ⟨h0, h1, h2, h3⟩ := ih
    exact ⟨fun _ _ => Le.bind (find_Check.le ..) fun _ => Le.cond (Le.refl _) (h1 ..), fun _ _ _ _ _ _ _ _ _ => Le.cond (Le.bind (Le.refl _) fun _ => h2 ..) (Le.cond (Le.bind (slices_SortStableFunc__int_int_v0.le ..) fun _ => h3 ..) (h3 ..)), fun _ _ _ _ _ _ _ _ _ _ _ _ _ _ _ _ => Le.cond (Le.bind (Le.refl _) fun _ => Le.bind (find_Holds.le ..) fun _ => Le.cond (h1 ..) (h2 ..)) (Le.bind (Le.refl _) fun _ => h1 ..), fun _ _ _ _ _ => Le.refl _⟩
set_option maxRecDepth 100000 in
theorem find_Run.le (k : Nat) : ∀ a0 a1, Le (find_Run.f k a0 a1) (find_Run.f (k + 1) a0 a1) := (find_Run.les k).1

set_option maxRecDepth 100000 in
theorem chartularylaw17_whole.les (k : Nat) : (∀ a0, Le (chartularylaw17_whole.f k a0) (chartularylaw17_whole.f (k + 1) a0)) := by
  induction k with
  | zero => exact fun _ => Le.none _
  | succ k ih =>
    have h0 := ih
    exact fun _ => Le.refl _
set_option maxRecDepth 100000 in
theorem chartularylaw17_whole.le (k : Nat) : ∀ a0, Le (chartularylaw17_whole.f k a0) (chartularylaw17_whole.f (k + 1) a0) := chartularylaw17_whole.les k

set_option maxRecDepth 100000 in
theorem chartularylaw17_awake.les (k : Nat) : (Le (chartularylaw17_awake.f k) (chartularylaw17_awake.f (k + 1))) := by
  induction k with
  | zero => exact Le.none _
  | succ k ih =>
    have h0 := ih
    exact Le.bind (chartularylaw17_whole.le ..) fun _ => Le.bind (chartularylaw17_whole.le ..) fun _ => Le.bind (chartularylaw17_whole.le ..) fun _ => Le.bind (find_Run.le ..) fun _ => Le.cond (Le.cond (Le.bind (Le.refl _) fun _ => Le.cond (Le.bind (Le.refl _) fun _ => Le.refl _) (Le.refl _)) (Le.refl _)) (Le.refl _)
set_option maxRecDepth 100000 in
theorem chartularylaw17_awake.le (k : Nat) : Le (chartularylaw17_awake.f k) (chartularylaw17_awake.f (k + 1)) := chartularylaw17_awake.les k

set_option maxRecDepth 100000 in
theorem chartularylaw05_Few.les (k : Nat) : (∀ a0, Le (chartularylaw05_Few.f k a0) (chartularylaw05_Few.f (k + 1) a0)) ∧ (∀ a0 a1 a2 a3 a4 a5 a6 a7 a8, Le (chartularylaw05_Few.j0 k a0 a1 a2 a3 a4 a5 a6 a7 a8) (chartularylaw05_Few.j0 (k + 1) a0 a1 a2 a3 a4 a5 a6 a7 a8)) ∧ (∀ a0 a1 a2 a3 a4 a5 a6 a7 a8 a9, Le (chartularylaw05_Few.l0 k a0 a1 a2 a3 a4 a5 a6 a7 a8 a9) (chartularylaw05_Few.l0 (k + 1) a0 a1 a2 a3 a4 a5 a6 a7 a8 a9)) := by
  induction k with
  | zero => exact ⟨fun _ => Le.none _, fun _ _ _ _ _ _ _ _ _ => Le.none _, fun _ _ _ _ _ _ _ _ _ _ => Le.none _⟩
  | succ k ih =>
    obtain ⟨h0, h1, h2⟩ := ih
    exact ⟨fun _ => Le.cond (Le.bind (Le.refl _) fun _ => h1 ..) (h1 ..), fun _ _ _ _ _ _ _ _ _ => h2 .., fun _ _ _ _ _ _ _ _ _ _ => Le.cond (Le.cond (Le.bind (Le.refl _) fun _ => Le.cond (Le.bind (Le.refl _) fun _ => Le.cond (Le.bind (Le.refl _) fun _ => Le.bind (Le.refl _) fun _ => h2 ..) (Le.bind (Le.refl _) fun _ => h2 ..)) (Le.cond (Le.bind (Le.refl _) fun _ => Le.bind (Le.refl _) fun _ => h2 ..) (Le.bind (Le.refl _) fun _ => h2 ..))) (Le.refl _)) (Le.refl _)⟩
set_option maxRecDepth 100000 in
theorem chartularylaw05_Few.le (k : Nat) : ∀ a0, Le (chartularylaw05_Few.f k a0) (chartularylaw05_Few.f (k + 1) a0) := (chartularylaw05_Few.les k).1

set_option maxRecDepth 100000 in
theorem chartularylaw17_papers.les (k : Nat) : (∀ a0, Le (chartularylaw17_papers.f k a0) (chartularylaw17_papers.f (k + 1) a0)) ∧ (∀ a0 a1 a2, Le (chartularylaw17_papers.l0 k a0 a1 a2) (chartularylaw17_papers.l0 (k + 1) a0 a1 a2)) := by
  induction k with
  | zero => exact ⟨fun _ => Le.none _, fun _ _ _ => Le.none _⟩
  | succ k ih =>
    obtain ⟨h0, h1⟩ := ih
    exact ⟨fun _ => h1 .., fun _ _ _ => Le.cond (Le.cond (Le.bind (Le.refl _) fun _ => Le.bind (chartularylaw05_Few.le ..) fun _ => Le.bind (Le.refl _) fun _ => h1 ..) (Le.refl _)) (Le.refl _)⟩
set_option maxRecDepth 100000 in
theorem chartularylaw17_papers.le (k : Nat) : ∀ a0, Le (chartularylaw17_papers.f k a0) (chartularylaw17_papers.f (k + 1) a0) := (chartularylaw17_papers.les k).1

set_option maxRecDepth 100000 in
theorem chartularylaw17_right.les (k : Nat) : (∀ a0, Le (chartularylaw17_right.f k a0) (chartularylaw17_right.f (k + 1) a0)) ∧ (∀ a0 a1, Le (chartularylaw17_right.l0 k a0 a1) (chartularylaw17_right.l0 (k + 1) a0 a1)) ∧ (∀ a0 a1 a2, Le (chartularylaw17_right.l1 k a0 a1 a2) (chartularylaw17_right.l1 (k + 1) a0 a1 a2)) := by
  induction k with
  | zero => exact ⟨fun _ => Le.none _, fun _ _ => Le.none _, fun _ _ _ => Le.none _⟩
  | succ k ih =>
    obtain ⟨h0, h1, h2⟩ := ih
    exact ⟨fun _ => h1 .., fun _ _ => Le.cond (h2 ..) (Le.refl _), fun _ _ _ => Le.bind (Le.refl _) fun _ => Le.cond (Le.bind (Le.refl _) fun _ => Le.bind (Le.refl _) fun _ => Le.bind (value_Right.le ..) fun _ => Le.cond (Le.refl _) (h2 ..)) (h1 ..)⟩
set_option maxRecDepth 100000 in
theorem chartularylaw17_right.le (k : Nat) : ∀ a0, Le (chartularylaw17_right.f k a0) (chartularylaw17_right.f (k + 1) a0) := (chartularylaw17_right.les k).1

set_option maxRecDepth 100000 in
theorem find_Groups_1.les (k : Nat) : (∀ a0 a1, Le (find_Groups_1.f k a0 a1) (find_Groups_1.f (k + 1) a0 a1)) := by
  induction k with
  | zero => exact fun _ _ => Le.none _
  | succ k ih =>
    have h0 := ih
    exact fun _ _ => Le.bind (value_Compare.le ..) fun _ => Le.refl _
set_option maxRecDepth 100000 in
theorem find_Groups_1.le (k : Nat) : ∀ a0 a1, Le (find_Groups_1.f k a0 a1) (find_Groups_1.f (k + 1) a0 a1) := find_Groups_1.les k

set_option maxRecDepth 100000 in
theorem slices_BinarySearchFunc_api_Value_v0.les (k : Nat) : (∀ a0 a1, Le (slices_BinarySearchFunc_api_Value_v0.f k a0 a1) (slices_BinarySearchFunc_api_Value_v0.f (k + 1) a0 a1)) ∧ (∀ a0 a1 a2 a3 a4 a5 a6 a7 a8, Le (slices_BinarySearchFunc_api_Value_v0.l0 k a0 a1 a2 a3 a4 a5 a6 a7 a8) (slices_BinarySearchFunc_api_Value_v0.l0 (k + 1) a0 a1 a2 a3 a4 a5 a6 a7 a8)) := by
  induction k with
  | zero => exact ⟨fun _ _ => Le.none _, fun _ _ _ _ _ _ _ _ _ => Le.none _⟩
  | succ k ih =>
    obtain ⟨h0, h1⟩ := ih
    exact ⟨fun _ _ => h1 .., fun _ _ _ _ _ _ _ _ _ => Le.cond ((by first | exact Le.bind (Le.refl _) (fun _ => Le.bind (Le.refl _) fun _ => Le.bind (Le.refl _) fun _ => Le.bind (find_Groups_1.le ..) fun _ => Le.cond (h1 ..) (h1 ..)) | exact Le.bind (Le.refl _) fun _ => Le.bind (Le.refl _) fun _ => Le.bind (find_Groups_1.le ..) fun _ => Le.cond (h1 ..) (h1 ..))) (Le.cond (Le.bind (Le.refl _) fun _ => Le.bind (Le.refl _) fun _ => Le.bind (find_Groups_1.le ..) fun _ => Le.refl _) (Le.refl _))⟩
set_option maxRecDepth 100000 in
theorem slices_BinarySearchFunc_api_Value_v0.le (k : Nat) : ∀ a0 a1, Le (slices_BinarySearchFunc_api_Value_v0.f k a0 a1) (slices_BinarySearchFunc_api_Value_v0.f (k + 1) a0 a1) := (slices_BinarySearchFunc_api_Value_v0.les k).1

set_option maxRecDepth 100000 in
theorem find_Groups.les (k : Nat) : (∀ a0 a1, Le (find_Groups.f k a0 a1) (find_Groups.f (k + 1) a0 a1)) ∧ (∀ a0 a1 a2 a3 a4, Le (find_Groups.l0 k a0 a1 a2 a3 a4) (find_Groups.l0 (k + 1) a0 a1 a2 a3 a4)) := by
  induction k with
  | zero => exact ⟨fun _ _ => Le.none _, fun _ _ _ _ _ => Le.none _⟩
  | succ k ih =>
    obtain ⟨h0, h1⟩ := ih
    exact ⟨fun _ _ => h1 .., fun _ _ _ _ _ => Le.cond (Le.bind (Le.refl _) fun _ => Le.bind (find_by.le ..) fun _ => Le.cond (h1 ..) (Le.bind (slices_BinarySearchFunc_api_Value_v0.le ..) fun _ => Le.cond (Le.bind (Le.eqv (by rfl)) fun _ => Le.bind (Le.refl _) fun _ => Le.bind (Le.refl _) fun _ => Le.bind (Le.refl _) fun _ => Le.bind (Le.refl _) fun _ => h1 ..) (Le.bind (Le.refl _) fun _ => Le.bind (Le.refl _) fun _ => Le.bind (Le.refl _) fun _ => Le.bind (Le.refl _) fun _ => h1 ..))) (Le.refl _)⟩
set_option maxRecDepth 100000 in
theorem find_Groups.le (k : Nat) : ∀ a0 a1, Le (find_Groups.f k a0 a1) (find_Groups.f (k + 1) a0 a1) := (find_Groups.les k).1

set_option maxRecDepth 100000 in
theorem value_Float.les (k : Nat) : (∀ a0, Le (value_Float.f k a0) (value_Float.f (k + 1) a0)) := by
  induction k with
  | zero => exact fun _ => Le.none _
  | succ k ih =>
    have h0 := ih
    exact fun _ => Le.cond (Le.refl _) (Le.bind (value_Right.le ..) fun _ => Le.cond (Le.refl _) (Le.bind (Le.eqv (by rfl)) fun _ => Le.refl _))
set_option maxRecDepth 100000 in
theorem value_Float.le (k : Nat) : ∀ a0, Le (value_Float.f k a0) (value_Float.f (k + 1) a0) := value_Float.les k

set_option maxRecDepth 100000 in
theorem math_Trunc.les (k : Nat) : (∀ a0, Le (math_Trunc.f k a0) (math_Trunc.f (k + 1) a0)) := by
  induction k with
  | zero => exact fun _ => Le.none _
  | succ k ih =>
    have h0 := ih
    exact fun _ => Le.refl _
set_option maxRecDepth 100000 in
theorem math_Trunc.le (k : Nat) : ∀ a0, Le (math_Trunc.f k a0) (math_Trunc.f (k + 1) a0) := math_Trunc.les k

set_option maxRecDepth 100000 in
theorem value_Whole.les (k : Nat) : (∀ a0, Le (value_Whole.f k a0) (value_Whole.f (k + 1) a0)) ∧ (∀ a0 a1 a2 a3 a4, Le (value_Whole.j0 k a0 a1 a2 a3 a4) (value_Whole.j0 (k + 1) a0 a1 a2 a3 a4)) := by
  induction k with
  | zero => exact ⟨fun _ => Le.none _, fun _ _ _ _ _ => Le.none _⟩
  | succ k ih =>
    obtain ⟨h0, h1⟩ := ih
    exact ⟨fun _ => Le.cond (Le.bind (value_Right.le ..) fun _ => Le.cond (Le.refl _) (h1 ..)) (h1 ..), fun _ _ _ _ _ => Le.bind (value_Float.le ..) fun _ => Le.cond (Le.refl _) (Le.cond (Le.refl _) (Le.cond (Le.refl _) (Le.bind (math_Trunc.le ..) fun _ => Le.cond (Le.refl _) (Le.bind (Le.refl _) fun _ => Le.refl _))))⟩
set_option maxRecDepth 100000 in
theorem value_Whole.le (k : Nat) : ∀ a0, Le (value_Whole.f k a0) (value_Whole.f (k + 1) a0) := (value_Whole.les k).1

set_option maxRecDepth 100000 in
theorem find_Sum.les (k : Nat) : (∀ a0 a1, Le (find_Sum.f k a0 a1) (find_Sum.f (k + 1) a0 a1)) ∧ (∀ a0 a1 a2 a3 a4 a5 a6, Le (find_Sum.l0 k a0 a1 a2 a3 a4 a5 a6) (find_Sum.l0 (k + 1) a0 a1 a2 a3 a4 a5 a6)) := by
  induction k with
  | zero => exact ⟨fun _ _ => Le.none _, fun _ _ _ _ _ _ _ => Le.none _⟩
  | succ k ih =>
    obtain ⟨h0, h1⟩ := ih
    exact ⟨fun _ _ => h1 .., fun _ _ _ _ _ _ _ => Le.cond (Le.bind (Le.refl _) fun _ => Le.bind (find_by.le ..) fun _ => Le.cond (h1 ..) (Le.bind (value_Whole.le ..) fun _ => Le.cond (h1 ..) (Le.cond (h1 ..) (h1 ..)))) (Le.refl _)⟩
set_option maxRecDepth 100000 in
theorem find_Sum.le (k : Nat) : ∀ a0 a1, Le (find_Sum.f k a0 a1) (find_Sum.f (k + 1) a0 a1) := (find_Sum.les k).1

set_option maxRecDepth 100000 in
theorem find_Extreme.les (k : Nat) : (∀ a0 a1 a2, Le (find_Extreme.f k a0 a1 a2) (find_Extreme.f (k + 1) a0 a1 a2)) ∧ (∀ a0 a1 a2 a3 a4 a5 a6 a7 a8 a9 a10 a11 a12 a13 a14 a15, Le (find_Extreme.l0 k a0 a1 a2 a3 a4 a5 a6 a7 a8 a9 a10 a11 a12 a13 a14 a15) (find_Extreme.l0 (k + 1) a0 a1 a2 a3 a4 a5 a6 a7 a8 a9 a10 a11 a12 a13 a14 a15)) := by
  induction k with
  | zero => exact ⟨fun _ _ _ => Le.none _, fun _ _ _ _ _ _ _ _ _ _ _ _ _ _ _ _ => Le.none _⟩
  | succ k ih =>
    obtain ⟨h0, h1⟩ := ih
    exact ⟨fun _ _ _ => h1 .., fun _ _ _ _ _ _ _ _ _ _ _ _ _ _ _ _ => Le.cond (Le.bind (Le.refl _) fun _ => Le.bind (find_by.le ..) fun _ => Le.bind (value_Float.le ..) fun _ => Le.cond (h1 ..) (Le.cond (h1 ..) (Le.bind (value_Compare.le ..) fun _ => Le.cond (h1 ..) (Le.cond (Le.cond (h1 ..) (Le.cond (Le.cond (h1 ..) (h1 ..)) (h1 ..))) (Le.cond (Le.cond (h1 ..) (h1 ..)) (h1 ..)))))) (Le.refl _)⟩
set_option maxRecDepth 100000 in
theorem find_Extreme.le (k : Nat) : ∀ a0 a1 a2, Le (find_Extreme.f k a0 a1 a2) (find_Extreme.f (k + 1) a0 a1 a2) := (find_Extreme.les k).1

set_option maxRecDepth 100000 in
theorem chartularylaw17_field.les (k : Nat) : (∀ a0 a1, Le (chartularylaw17_field.f k a0 a1) (chartularylaw17_field.f (k + 1) a0 a1)) ∧ (∀ a0 a1 a2 a3 a4, Le (chartularylaw17_field.l0 k a0 a1 a2 a3 a4) (chartularylaw17_field.l0 (k + 1) a0 a1 a2 a3 a4)) := by
  induction k with
  | zero => exact ⟨fun _ _ => Le.none _, fun _ _ _ _ _ => Le.none _⟩
  | succ k ih =>
    obtain ⟨h0, h1⟩ := ih
    exact ⟨fun _ _ => h1 .., fun _ _ _ _ _ => Le.cond (Le.bind (Le.refl _) fun _ => Le.cond (Le.refl _) (h1 ..)) (Le.refl _)⟩
set_option maxRecDepth 100000 in
theorem chartularylaw17_field.le (k : Nat) : ∀ a0 a1, Le (chartularylaw17_field.f k a0 a1) (chartularylaw17_field.f (k + 1) a0 a1) := (chartularylaw17_field.les k).1

set_option maxRecDepth 100000 in
theorem chartularylaw17_FindGroups.les (k : Nat) : (∀ a0 a1 a2, Le (chartularylaw17_FindGroups.f k a0 a1 a2) (chartularylaw17_FindGroups.f (k + 1) a0 a1 a2)) ∧ (∀ a0 a1 a2 a3 a4 a5 a6 a7 a8 a9 a10 a11 a12 a13 a14 a15 a16 a17 a18 a19 a20 a21 a22, Le (chartularylaw17_FindGroups.l0 k a0 a1 a2 a3 a4 a5 a6 a7 a8 a9 a10 a11 a12 a13 a14 a15 a16 a17 a18 a19 a20 a21 a22) (chartularylaw17_FindGroups.l0 (k + 1) a0 a1 a2 a3 a4 a5 a6 a7 a8 a9 a10 a11 a12 a13 a14 a15 a16 a17 a18 a19 a20 a21 a22)) ∧ (∀ a0 a1 a2 a3 a4 a5 a6 a7 a8 a9 a10 a11 a12 a13 a14 a15 a16 a17 a18 a19 a20 a21 a22 a23 a24 a25 a26 a27 a28, Le (chartularylaw17_FindGroups.j0 k a0 a1 a2 a3 a4 a5 a6 a7 a8 a9 a10 a11 a12 a13 a14 a15 a16 a17 a18 a19 a20 a21 a22 a23 a24 a25 a26 a27 a28) (chartularylaw17_FindGroups.j0 (k + 1) a0 a1 a2 a3 a4 a5 a6 a7 a8 a9 a10 a11 a12 a13 a14 a15 a16 a17 a18 a19 a20 a21 a22 a23 a24 a25 a26 a27 a28)) ∧ (∀ a0 a1 a2 a3 a4 a5 a6 a7 a8 a9 a10 a11 a12 a13 a14 a15 a16 a17 a18 a19 a20 a21 a22 a23 a24 a25 a26 a27, Le (chartularylaw17_FindGroups.j1 k a0 a1 a2 a3 a4 a5 a6 a7 a8 a9 a10 a11 a12 a13 a14 a15 a16 a17 a18 a19 a20 a21 a22 a23 a24 a25 a26 a27) (chartularylaw17_FindGroups.j1 (k + 1) a0 a1 a2 a3 a4 a5 a6 a7 a8 a9 a10 a11 a12 a13 a14 a15 a16 a17 a18 a19 a20 a21 a22 a23 a24 a25 a26 a27)) ∧ (∀ a0 a1 a2 a3 a4, Le (chartularylaw17_FindGroups.l1 k a0 a1 a2 a3 a4) (chartularylaw17_FindGroups.l1 (k + 1) a0 a1 a2 a3 a4)) ∧ (∀ a0 a1 a2 a3 a4 a5 a6, Le (chartularylaw17_FindGroups.l2 k a0 a1 a2 a3 a4 a5 a6) (chartularylaw17_FindGroups.l2 (k + 1) a0 a1 a2 a3 a4 a5 a6)) := by
  induction k with
  | zero => exact ⟨fun _ _ _ => Le.none _, fun _ _ _ _ _ _ _ _ _ _ _ _ _ _ _ _ _ _ _ _ _ _ _ => Le.none _, fun _ _ _ _ _ _ _ _ _ _ _ _ _ _ _ _ _ _ _ _ _ _ _ _ _ _ _ _ _ => Le.none _, fun _ _ _ _ _ _ _ _ _ _ _ _ _ _ _ _ _ _ _ _ _ _ _ _ _ _ _ _ => Le.none _, fun _ _ _ _ _ => Le.none _, fun _ _ _ _ _ _ _ => Le.none _⟩
  | succ k ih =>
    obtain ⟨h0, h1, h2, h3, h4, h5⟩ := ih
    exact ⟨fun _ _ _ => Le.bind (chartularylaw17_papers.le ..) fun _ => Le.bind (chartularylaw17_right.le ..) fun _ => Le.cond (Le.bind (chartularylaw17_awake.le ..) fun _ => Le.refl _) (Le.bind (find_Groups.le ..) fun _ => Le.bind (find_Sum.le ..) fun _ => Le.bind (find_Extreme.le ..) fun _ => h1 ..), fun _ _ _ _ _ _ _ _ _ _ _ _ _ _ _ _ _ _ _ _ _ _ _ => Le.cond (Le.bind (Le.refl _) fun _ => Le.bind (chartularylaw17_field.le ..) fun _ => Le.cond (h1 ..) (Le.bind (Le.refl _) fun _ => Le.bind (Le.refl _) fun _ => Le.bind (value_Whole.le ..) fun _ => Le.cond (Le.cond (h2 ..) (Le.cond (h2 ..) (h2 ..))) (h3 ..))) (Le.cond (Le.refl _) (Le.cond (Le.refl _) (Le.cond (Le.refl _) (Le.cond (Le.refl _) (Le.cond (Le.refl _) (h4 ..)))))), fun _ _ _ _ _ _ _ _ _ _ _ _ _ _ _ _ _ _ _ _ _ _ _ _ _ _ _ _ _ => Le.cond (h3 ..) (Le.cond (h3 ..) (h3 ..)), fun _ _ _ _ _ _ _ _ _ _ _ _ _ _ _ _ _ _ _ _ _ _ _ _ _ _ _ _ => Le.cond ((by first | exact Le.bind (Le.refl _) (fun _ => Le.cond (Le.cond (h1 ..) (Le.cond (Le.bind (value_Compare.le ..) fun _ => Le.cond (h1 ..) (Le.cond (Le.bind (value_Compare.le ..) fun _ => Le.cond (h1 ..) (h1 ..)) (h1 ..))) (Le.cond (Le.bind (value_Compare.le ..) fun _ => Le.cond (h1 ..) (h1 ..)) (h1 ..)))) (h1 ..)) | exact Le.cond (Le.cond (h1 ..) (Le.cond (Le.bind (value_Compare.le ..) fun _ => Le.cond (h1 ..) (Le.cond (Le.bind (value_Compare.le ..) fun _ => Le.cond (h1 ..) (h1 ..)) (h1 ..))) (Le.cond (Le.bind (value_Compare.le ..) fun _ => Le.cond (h1 ..) (h1 ..)) (h1 ..)))) (h1 ..))) (h1 ..), fun _ _ _ _ _ => Le.cond (h5 ..) (Le.cond (Le.bind (chartularylaw17_awake.le ..) fun _ => Le.refl _) (Le.refl _)), fun _ _ _ _ _ _ _ => Le.cond (Le.bind (Le.refl _) fun _ => Le.bind (chartularylaw17_field.le ..) fun _ => Le.cond (Le.bind (Le.refl _) fun _ => Le.bind (Le.refl _) fun _ => Le.bind (Le.refl _) fun _ => Le.cond (h5 ..) (h5 ..)) (h5 ..)) (Le.bind (Le.refl _) fun _ => Le.cond (Le.refl _) (Le.cond (Le.refl _) (Le.cond (Le.bind (Le.refl _) fun _ => Le.bind (Le.refl _) fun _ => Le.bind (value_Compare.le ..) fun _ => Le.cond (Le.refl _) (h4 ..)) (h4 ..))))⟩
set_option maxRecDepth 100000 in
theorem chartularylaw17_FindGroups.le (k : Nat) : ∀ a0 a1 a2, Le (chartularylaw17_FindGroups.f k a0 a1 a2) (chartularylaw17_FindGroups.f (k + 1) a0 a1 a2) := (chartularylaw17_FindGroups.les k).1

end Go.Proofs.Ytcjiipbppkdkaaa.E
