/- Laid by gen.py: with more rounds the functions come to the same. -/
import Derived.Test.YtabdmnoejoiboaaEDefs
namespace Go.Proofs.Ytabdmnoejoiboaa.E
open Go Go.Proofs.Ytabdmnoejoiboaa.Eng
set_option linter.unusedVariables false
/-- What the one comes to, the other comes to. -/
structure Le {α : Type} (x y : Option α) : Prop where
  le : ∀ v, x = some v → y = some v
theorem Le.refl {α : Type} (x : Option α) : Le x x := ⟨fun _ h => h⟩
theorem Le.eqv {α : Type} {x y : Option α} (h : x = y) : Le x y := h ▸ Le.refl x
theorem Le.none {α : Type} (y : Option α) : Le none y := ⟨fun _ h => by cases h⟩
theorem Le.bind {α β : Type} {x y : Option α} {g h : α → Option β} (h1 : Le x y) (h2 : ∀ v, Le (g v) (h v)) : Le (x.bind g) (y.bind h) := ⟨fun v hv => by
  cases hx : x with
  | none => rw [hx] at hv; cases hv
  | some w => rw [hx] at hv; rw [h1.le w hx]; exact (h2 w).le v hv⟩
theorem Le.cond {α : Type} {b : Bool} {x y x' y' : Option α} (h1 : Le x x') (h2 : Le y y') : Le (bif b then x else y) (bif b then x' else y') := by cases b; exact h2; exact h1
set_option maxRecDepth 100000 in
theorem value_nan.les (k : Nat) : (∀ a0, Le (value_nan.f k a0) (value_nan.f (k + 1) a0)) := by
  induction k with
  | zero => exact fun _ => Le.none _
  | succ k ih =>
    have h0 := ih
    exact fun _ => Le.refl _
set_option maxRecDepth 100000 in
theorem value_nan.le (k : Nat) : ∀ a0, Le (value_nan.f k a0) (value_nan.f (k + 1) a0) := value_nan.les k

set_option maxRecDepth 100000 in
theorem value_Clean.les (k : Nat) : (∀ a0, Le (value_Clean.f k a0) (value_Clean.f (k + 1) a0)) := by
  induction k with
  | zero => exact fun _ => Le.none _
  | succ k ih =>
    have h0 := ih
    exact fun _ => Le.cond (Le.refl _) (Le.cond (Le.refl _) (Le.cond (Le.bind (value_nan.le ..) fun _ => Le.cond (Le.refl _) (Le.refl _)) (Le.cond (Le.refl _) (Le.refl _))))
set_option maxRecDepth 100000 in
theorem value_Clean.le (k : Nat) : ∀ a0, Le (value_Clean.f k a0) (value_Clean.f (k + 1) a0) := value_Clean.les k

set_option maxRecDepth 100000 in
theorem bytealg_CompareString.les (k : Nat) : (∀ a0 a1, Le (bytealg_CompareString.f k a0 a1) (bytealg_CompareString.f (k + 1) a0 a1)) := by
  induction k with
  | zero => exact fun _ _ => Le.none _
  | succ k ih =>
    have h0 := ih
    exact fun _ _ => Le.refl _
set_option maxRecDepth 100000 in
theorem bytealg_CompareString.le (k : Nat) : ∀ a0 a1, Le (bytealg_CompareString.f k a0 a1) (bytealg_CompareString.f (k + 1) a0 a1) := bytealg_CompareString.les k

set_option maxRecDepth 100000 in
theorem strings_Compare.les (k : Nat) : (∀ a0 a1, Le (strings_Compare.f k a0 a1) (strings_Compare.f (k + 1) a0 a1)) := by
  induction k with
  | zero => exact fun _ _ => Le.none _
  | succ k ih =>
    have h0 := ih
    exact fun _ _ => Le.bind (bytealg_CompareString.le ..) fun _ => Le.refl _
set_option maxRecDepth 100000 in
theorem strings_Compare.le (k : Nat) : ∀ a0 a1, Le (strings_Compare.f k a0 a1) (strings_Compare.f (k + 1) a0 a1) := strings_Compare.les k

set_option maxRecDepth 100000 in
theorem paper_byName.les (k : Nat) : (∀ a0 a1, Le (paper_byName.f k a0 a1) (paper_byName.f (k + 1) a0 a1)) := by
  induction k with
  | zero => exact fun _ _ => Le.none _
  | succ k ih =>
    have h0 := ih
    exact fun _ _ => Le.bind (strings_Compare.le ..) fun _ => Le.refl _
set_option maxRecDepth 100000 in
theorem paper_byName.le (k : Nat) : ∀ a0 a1, Le (paper_byName.f k a0 a1) (paper_byName.f (k + 1) a0 a1) := paper_byName.les k

set_option maxRecDepth 100000 in
theorem slices_insertionSortCmpFunc_api_Field_v0.les (k : Nat) : (∀ a0 a1 a2, Le (slices_insertionSortCmpFunc_api_Field_v0.f k a0 a1 a2) (slices_insertionSortCmpFunc_api_Field_v0.f (k + 1) a0 a1 a2)) ∧ (∀ a0 a1 a2 a3, Le (slices_insertionSortCmpFunc_api_Field_v0.l0 k a0 a1 a2 a3) (slices_insertionSortCmpFunc_api_Field_v0.l0 (k + 1) a0 a1 a2 a3)) ∧ (∀ a0 a1 a2 a3 a4, Le (slices_insertionSortCmpFunc_api_Field_v0.l1 k a0 a1 a2 a3 a4) (slices_insertionSortCmpFunc_api_Field_v0.l1 (k + 1) a0 a1 a2 a3 a4)) := by
  induction k with
  | zero => exact ⟨fun _ _ _ => Le.none _, fun _ _ _ _ => Le.none _, fun _ _ _ _ _ => Le.none _⟩
  | succ k ih =>
    obtain ⟨h0, h1, h2⟩ := ih
    exact ⟨fun _ _ _ => h1 .., fun _ _ _ _ => Le.cond (h2 ..) (Le.refl _), fun _ _ _ _ _ => Le.cond (Le.bind (Le.refl _) fun _ => Le.bind (Le.refl _) fun _ => Le.bind (Le.refl _) fun _ => Le.bind (Le.refl _) fun _ => Le.bind (paper_byName.le ..) fun _ => Le.cond (Le.bind (Le.refl _) fun _ => Le.bind (Le.refl _) fun _ => Le.bind (Le.refl _) fun _ => Le.bind (Le.refl _) fun _ => Le.bind (Le.refl _) fun _ => Le.bind (Le.refl _) fun _ => h2 ..) (h1 ..)) (h1 ..)⟩
set_option maxRecDepth 100000 in
theorem slices_insertionSortCmpFunc_api_Field_v0.le (k : Nat) : ∀ a0 a1 a2, Le (slices_insertionSortCmpFunc_api_Field_v0.f k a0 a1 a2) (slices_insertionSortCmpFunc_api_Field_v0.f (k + 1) a0 a1 a2) := (slices_insertionSortCmpFunc_api_Field_v0.les k).1

set_option maxRecDepth 100000 in
theorem slices_swapRangeCmpFunc_api_Field_v0.les (k : Nat) : (∀ a0 a1 a2 a3, Le (slices_swapRangeCmpFunc_api_Field_v0.f k a0 a1 a2 a3) (slices_swapRangeCmpFunc_api_Field_v0.f (k + 1) a0 a1 a2 a3)) ∧ (∀ a0 a1 a2 a3 a4, Le (slices_swapRangeCmpFunc_api_Field_v0.l0 k a0 a1 a2 a3 a4) (slices_swapRangeCmpFunc_api_Field_v0.l0 (k + 1) a0 a1 a2 a3 a4)) := by
  induction k with
  | zero => exact ⟨fun _ _ _ _ => Le.none _, fun _ _ _ _ _ => Le.none _⟩
  | succ k ih =>
    obtain ⟨h0, h1⟩ := ih
    exact ⟨fun _ _ _ _ => h1 .., fun _ _ _ _ _ => Le.cond (Le.bind (Le.refl _) fun _ => Le.bind (Le.refl _) fun _ => Le.bind (Le.refl _) fun _ => Le.bind (Le.refl _) fun _ => Le.bind (Le.refl _) fun _ => Le.bind (Le.refl _) fun _ => h1 ..) (Le.refl _)⟩
set_option maxRecDepth 100000 in
theorem slices_swapRangeCmpFunc_api_Field_v0.le (k : Nat) : ∀ a0 a1 a2 a3, Le (slices_swapRangeCmpFunc_api_Field_v0.f k a0 a1 a2 a3) (slices_swapRangeCmpFunc_api_Field_v0.f (k + 1) a0 a1 a2 a3) := (slices_swapRangeCmpFunc_api_Field_v0.les k).1

set_option maxRecDepth 100000 in
theorem slices_rotateCmpFunc_api_Field_v0.les (k : Nat) : (∀ a0 a1 a2 a3, Le (slices_rotateCmpFunc_api_Field_v0.f k a0 a1 a2 a3) (slices_rotateCmpFunc_api_Field_v0.f (k + 1) a0 a1 a2 a3)) ∧ (∀ a0 a1 a2 a3, Le (slices_rotateCmpFunc_api_Field_v0.l0 k a0 a1 a2 a3) (slices_rotateCmpFunc_api_Field_v0.l0 (k + 1) a0 a1 a2 a3)) := by
  induction k with
  | zero => exact ⟨fun _ _ _ _ => Le.none _, fun _ _ _ _ => Le.none _⟩
  | succ k ih =>
    obtain ⟨h0, h1⟩ := ih
    exact ⟨fun _ _ _ _ => h1 .., fun _ _ _ _ => Le.cond (Le.cond (Le.bind (slices_swapRangeCmpFunc_api_Field_v0.le ..) fun _ => h1 ..) (Le.bind (slices_swapRangeCmpFunc_api_Field_v0.le ..) fun _ => h1 ..)) (Le.bind (slices_swapRangeCmpFunc_api_Field_v0.le ..) fun _ => Le.refl _)⟩
set_option maxRecDepth 100000 in
theorem slices_rotateCmpFunc_api_Field_v0.le (k : Nat) : ∀ a0 a1 a2 a3, Le (slices_rotateCmpFunc_api_Field_v0.f k a0 a1 a2 a3) (slices_rotateCmpFunc_api_Field_v0.f (k + 1) a0 a1 a2 a3) := (slices_rotateCmpFunc_api_Field_v0.les k).1

set_option maxRecDepth 100000 in
theorem slices_symMergeCmpFunc_api_Field_v0.les (k : Nat) : (∀ a0 a1 a2 a3, Le (slices_symMergeCmpFunc_api_Field_v0.f k a0 a1 a2 a3) (slices_symMergeCmpFunc_api_Field_v0.f (k + 1) a0 a1 a2 a3)) ∧ (∀ a0 a1 a2 a3, Le (slices_symMergeCmpFunc_api_Field_v0.l0 k a0 a1 a2 a3) (slices_symMergeCmpFunc_api_Field_v0.l0 (k + 1) a0 a1 a2 a3)) ∧ (∀ a0 a1 a2, Le (slices_symMergeCmpFunc_api_Field_v0.l2 k a0 a1 a2) (slices_symMergeCmpFunc_api_Field_v0.l2 (k + 1) a0 a1 a2)) ∧ (∀ a0 a1 a2 a3, Le (slices_symMergeCmpFunc_api_Field_v0.l1 k a0 a1 a2 a3) (slices_symMergeCmpFunc_api_Field_v0.l1 (k + 1) a0 a1 a2 a3)) ∧ (∀ a0 a1 a2, Le (slices_symMergeCmpFunc_api_Field_v0.l3 k a0 a1 a2) (slices_symMergeCmpFunc_api_Field_v0.l3 (k + 1) a0 a1 a2)) ∧ (∀ a0 a1 a2 a3 a4 a5 a6 a7, Le (slices_symMergeCmpFunc_api_Field_v0.j0 k a0 a1 a2 a3 a4 a5 a6 a7) (slices_symMergeCmpFunc_api_Field_v0.j0 (k + 1) a0 a1 a2 a3 a4 a5 a6 a7)) ∧ (∀ a0 a1 a2 a3 a4 a5 a6 a7 a8, Le (slices_symMergeCmpFunc_api_Field_v0.l4 k a0 a1 a2 a3 a4 a5 a6 a7 a8) (slices_symMergeCmpFunc_api_Field_v0.l4 (k + 1) a0 a1 a2 a3 a4 a5 a6 a7 a8)) ∧ (∀ a0 a1 a2 a3 a4 a5, Le (slices_symMergeCmpFunc_api_Field_v0.j1 k a0 a1 a2 a3 a4 a5) (slices_symMergeCmpFunc_api_Field_v0.j1 (k + 1) a0 a1 a2 a3 a4 a5)) ∧ (∀ a0 a1 a2 a3, Le (slices_symMergeCmpFunc_api_Field_v0.j2 k a0 a1 a2 a3) (slices_symMergeCmpFunc_api_Field_v0.j2 (k + 1) a0 a1 a2 a3)) := by
  induction k with
  | zero => exact ⟨fun _ _ _ _ => Le.none _, fun _ _ _ _ => Le.none _, fun _ _ _ => Le.none _, fun _ _ _ _ => Le.none _, fun _ _ _ => Le.none _, fun _ _ _ _ _ _ _ _ => Le.none _, fun _ _ _ _ _ _ _ _ _ => Le.none _, fun _ _ _ _ _ _ => Le.none _, fun _ _ _ _ => Le.none _⟩
  | succ k ih =>
    obtain ⟨h0, h1, h2, h3, h4, h5, h6, h7, h8⟩ := ih
    exact ⟨fun _ _ _ _ => Le.cond (h1 ..) (Le.cond (h3 ..) ((by first | exact Le.bind (Le.refl _) (fun _ => Le.cond (h5 ..) (h5 ..)) | exact Le.cond (h5 ..) (h5 ..)))), fun _ _ _ _ => Le.cond ((by first | exact Le.bind (Le.refl _) (fun _ => Le.bind (Le.refl _) fun _ => Le.bind (Le.refl _) fun _ => Le.bind (Le.refl _) fun _ => Le.bind (Le.refl _) fun _ => Le.bind (paper_byName.le ..) fun _ => Le.cond (h1 ..) (h1 ..)) | exact Le.bind (Le.refl _) fun _ => Le.bind (Le.refl _) fun _ => Le.bind (Le.refl _) fun _ => Le.bind (Le.refl _) fun _ => Le.bind (paper_byName.le ..) fun _ => Le.cond (h1 ..) (h1 ..))) (h2 ..), fun _ _ _ => Le.cond (Le.bind (Le.refl _) fun _ => Le.bind (Le.refl _) fun _ => Le.bind (Le.refl _) fun _ => Le.bind (Le.refl _) fun _ => Le.bind (Le.refl _) fun _ => Le.bind (Le.refl _) fun _ => h2 ..) (Le.refl _), fun _ _ _ _ => Le.cond ((by first | exact Le.bind (Le.refl _) (fun _ => Le.bind (Le.refl _) fun _ => Le.bind (Le.refl _) fun _ => Le.bind (Le.refl _) fun _ => Le.bind (Le.refl _) fun _ => Le.bind (paper_byName.le ..) fun _ => Le.cond (h3 ..) (h3 ..)) | exact Le.bind (Le.refl _) fun _ => Le.bind (Le.refl _) fun _ => Le.bind (Le.refl _) fun _ => Le.bind (Le.refl _) fun _ => Le.bind (paper_byName.le ..) fun _ => Le.cond (h3 ..) (h3 ..))) (h4 ..), fun _ _ _ => Le.cond (Le.bind (Le.refl _) fun _ => Le.bind (Le.refl _) fun _ => Le.bind (Le.refl _) fun _ => Le.bind (Le.refl _) fun _ => Le.bind (Le.refl _) fun _ => Le.bind (Le.refl _) fun _ => h4 ..) (Le.refl _), fun _ _ _ _ _ _ _ _ => h6 .., fun _ _ _ _ _ _ _ _ _ => Le.cond ((by first | exact Le.bind (Le.refl _) (fun _ => Le.bind (Le.refl _) fun _ => Le.bind (Le.refl _) fun _ => Le.bind (Le.refl _) fun _ => Le.bind (Le.refl _) fun _ => Le.bind (paper_byName.le ..) fun _ => Le.cond (h6 ..) (h6 ..)) | exact Le.bind (Le.refl _) fun _ => Le.bind (Le.refl _) fun _ => Le.bind (Le.refl _) fun _ => Le.bind (Le.refl _) fun _ => Le.bind (paper_byName.le ..) fun _ => Le.cond (h6 ..) (h6 ..))) (Le.cond (Le.cond (Le.bind (slices_rotateCmpFunc_api_Field_v0.le ..) fun _ => h7 ..) (h7 ..)) (h7 ..)), fun _ _ _ _ _ _ => Le.cond (Le.cond (Le.bind (h0 ..) fun _ => h8 ..) (h8 ..)) (h8 ..), fun _ _ _ _ => Le.cond (Le.cond (Le.bind (h0 ..) fun _ => Le.refl _) (Le.refl _)) (Le.refl _)⟩
set_option maxRecDepth 100000 in
theorem slices_symMergeCmpFunc_api_Field_v0.le (k : Nat) : ∀ a0 a1 a2 a3, Le (slices_symMergeCmpFunc_api_Field_v0.f k a0 a1 a2 a3) (slices_symMergeCmpFunc_api_Field_v0.f (k + 1) a0 a1 a2 a3) := (slices_symMergeCmpFunc_api_Field_v0.les k).1

set_option maxRecDepth 100000 in
theorem slices_stableCmpFunc_api_Field_v0.les (k : Nat) : (∀ a0 a1, Le (slices_stableCmpFunc_api_Field_v0.f k a0 a1) (slices_stableCmpFunc_api_Field_v0.f (k + 1) a0 a1)) ∧ (∀ a0 a1 a2 a3 a4, Le (slices_stableCmpFunc_api_Field_v0.l0 k a0 a1 a2 a3 a4) (slices_stableCmpFunc_api_Field_v0.l0 (k + 1) a0 a1 a2 a3 a4)) ∧ (∀ a0 a1 a2, Le (slices_stableCmpFunc_api_Field_v0.l1 k a0 a1 a2) (slices_stableCmpFunc_api_Field_v0.l1 (k + 1) a0 a1 a2)) ∧ (∀ a0 a1 a2 a3 a4, Le (slices_stableCmpFunc_api_Field_v0.l2 k a0 a1 a2 a3 a4) (slices_stableCmpFunc_api_Field_v0.l2 (k + 1) a0 a1 a2 a3 a4)) := by
  induction k with
  | zero => exact ⟨fun _ _ => Le.none _, fun _ _ _ _ _ => Le.none _, fun _ _ _ => Le.none _, fun _ _ _ _ _ => Le.none _⟩
  | succ k ih =>
    obtain ⟨h0, h1, h2, h3⟩ := ih
    exact ⟨fun _ _ => h1 .., fun _ _ _ _ _ => Le.cond (Le.bind (slices_insertionSortCmpFunc_api_Field_v0.le ..) fun _ => h1 ..) (Le.bind (slices_insertionSortCmpFunc_api_Field_v0.le ..) fun _ => h2 ..), fun _ _ _ => Le.cond (h3 ..) (Le.refl _), fun _ _ _ _ _ => Le.cond (Le.bind (slices_symMergeCmpFunc_api_Field_v0.le ..) fun _ => h3 ..) (Le.cond (Le.bind (slices_symMergeCmpFunc_api_Field_v0.le ..) fun _ => h2 ..) (h2 ..))⟩
set_option maxRecDepth 100000 in
theorem slices_stableCmpFunc_api_Field_v0.le (k : Nat) : ∀ a0 a1, Le (slices_stableCmpFunc_api_Field_v0.f k a0 a1) (slices_stableCmpFunc_api_Field_v0.f (k + 1) a0 a1) := (slices_stableCmpFunc_api_Field_v0.les k).1

set_option maxRecDepth 100000 in
theorem slices_SortStableFunc_api_Field_v0.les (k : Nat) : (∀ a0, Le (slices_SortStableFunc_api_Field_v0.f k a0) (slices_SortStableFunc_api_Field_v0.f (k + 1) a0)) := by
  induction k with
  | zero => exact fun _ => Le.none _
  | succ k ih =>
    have h0 := ih
    exact fun _ => Le.bind (slices_stableCmpFunc_api_Field_v0.le ..) fun _ => Le.refl _
set_option maxRecDepth 100000 in
theorem slices_SortStableFunc_api_Field_v0.le (k : Nat) : ∀ a0, Le (slices_SortStableFunc_api_Field_v0.f k a0) (slices_SortStableFunc_api_Field_v0.f (k + 1) a0) := slices_SortStableFunc_api_Field_v0.les k

set_option maxRecDepth 100000 in
theorem paper_Tidy.les (k : Nat) : (∀ a0, Le (paper_Tidy.f k a0) (paper_Tidy.f (k + 1) a0)) ∧ (∀ a0 a1 a2 a3 a4 a5 a6 a7 a8, Le (paper_Tidy.l0 k a0 a1 a2 a3 a4 a5 a6 a7 a8) (paper_Tidy.l0 (k + 1) a0 a1 a2 a3 a4 a5 a6 a7 a8)) := by
  induction k with
  | zero => exact ⟨fun _ => Le.none _, fun _ _ _ _ _ _ _ _ _ => Le.none _⟩
  | succ k ih =>
    obtain ⟨h0, h1⟩ := ih
    exact ⟨fun _ => h1 .., fun _ _ _ _ _ _ _ _ _ => Le.cond (Le.bind (Le.refl _) fun _ => Le.bind (value_Clean.le ..) fun _ => Le.bind (Le.refl _) fun _ => h1 ..) (Le.bind (slices_SortStableFunc_api_Field_v0.le ..) fun _ => Le.refl _)⟩
set_option maxRecDepth 100000 in
theorem paper_Tidy.le (k : Nat) : ∀ a0, Le (paper_Tidy.f k a0) (paper_Tidy.f (k + 1) a0) := (paper_Tidy.les k).1

set_option maxRecDepth 100000 in
theorem paper_sign.les (k : Nat) : (∀ a0, Le (paper_sign.f k a0) (paper_sign.f (k + 1) a0)) := by
  induction k with
  | zero => exact fun _ => Le.none _
  | succ k ih =>
    have h0 := ih
    exact fun _ => Le.refl _
set_option maxRecDepth 100000 in
theorem paper_sign.le (k : Nat) : ∀ a0, Le (paper_sign.f k a0) (paper_sign.f (k + 1) a0) := paper_sign.les k

set_option maxRecDepth 100000 in
theorem paper_word.les (k : Nat) : (∀ a0 a1, Le (paper_word.f k a0 a1) (paper_word.f (k + 1) a0 a1)) ∧ (∀ a0, Le (paper_word.j0 k a0) (paper_word.j0 (k + 1) a0)) ∧ (∀ a0 a1 a2, Le (paper_word.l0 k a0 a1 a2) (paper_word.l0 (k + 1) a0 a1 a2)) := by
  induction k with
  | zero => exact ⟨fun _ _ => Le.none _, fun _ => Le.none _, fun _ _ _ => Le.none _⟩
  | succ k ih =>
    obtain ⟨h0, h1, h2⟩ := ih
    exact ⟨fun _ _ => Le.cond (Le.refl _) (Le.cond (Le.refl _) (h1 ..)), fun _ => h2 .., fun _ _ _ => Le.cond (Le.bind (Le.refl _) fun _ => Le.bind (paper_sign.le ..) fun _ => Le.cond (Le.refl _) (h2 ..)) (Le.refl _)⟩
set_option maxRecDepth 100000 in
theorem paper_word.le (k : Nat) : ∀ a0 a1, Le (paper_word.f k a0 a1) (paper_word.f (k + 1) a0 a1) := (paper_word.les k).1

set_option maxRecDepth 100000 in
theorem paper_IsID.les (k : Nat) : (∀ a0, Le (paper_IsID.f k a0) (paper_IsID.f (k + 1) a0)) := by
  induction k with
  | zero => exact fun _ => Le.none _
  | succ k ih =>
    have h0 := ih
    exact fun _ => Le.bind (paper_word.le ..) fun _ => Le.refl _
set_option maxRecDepth 100000 in
theorem paper_IsID.le (k : Nat) : ∀ a0, Le (paper_IsID.f k a0) (paper_IsID.f (k + 1) a0) := paper_IsID.les k

set_option maxRecDepth 100000 in
theorem paper_IsName.les (k : Nat) : (∀ a0, Le (paper_IsName.f k a0) (paper_IsName.f (k + 1) a0)) := by
  induction k with
  | zero => exact fun _ => Le.none _
  | succ k ih =>
    have h0 := ih
    exact fun _ => Le.bind (paper_word.le ..) fun _ => Le.refl _
set_option maxRecDepth 100000 in
theorem paper_IsName.le (k : Nat) : ∀ a0, Le (paper_IsName.f k a0) (paper_IsName.f (k + 1) a0) := paper_IsName.les k

set_option maxRecDepth 100000 in
theorem value_Right.les (k : Nat) : (∀ a0, Le (value_Right.f k a0) (value_Right.f (k + 1) a0)) := by
  induction k with
  | zero => exact fun _ => Le.none _
  | succ k ih =>
    have h0 := ih
    exact fun _ => Le.cond (Le.cond (Le.cond (Le.bind (value_Clean.le ..) fun _ => Le.refl _) (Le.refl _)) (Le.refl _)) (Le.refl _)
set_option maxRecDepth 100000 in
theorem value_Right.le (k : Nat) : ∀ a0, Le (value_Right.f k a0) (value_Right.f (k + 1) a0) := value_Right.les k

set_option maxRecDepth 100000 in
theorem paper_Check.les (k : Nat) : (∀ a0, Le (paper_Check.f k a0) (paper_Check.f (k + 1) a0)) ∧ (∀ a0 a1 a2, Le (paper_Check.j0 k a0 a1 a2) (paper_Check.j0 (k + 1) a0 a1 a2)) ∧ (∀ a0 a1 a2 a3 a4 a5, Le (paper_Check.l0 k a0 a1 a2 a3 a4 a5) (paper_Check.l0 (k + 1) a0 a1 a2 a3 a4 a5)) ∧ (∀ a0 a1, Le (paper_Check.l1 k a0 a1) (paper_Check.l1 (k + 1) a0 a1)) := by
  induction k with
  | zero => exact ⟨fun _ => Le.none _, fun _ _ _ => Le.none _, fun _ _ _ _ _ _ => Le.none _, fun _ _ => Le.none _⟩
  | succ k ih =>
    obtain ⟨h0, h1, h2, h3⟩ := ih
    exact ⟨fun _ => Le.bind (paper_IsID.le ..) fun _ => Le.cond (Le.refl _) (Le.cond (Le.refl _) (Le.cond (Le.refl _) (Le.cond (Le.refl _) (Le.cond (Le.refl _) (h1 ..))))), fun _ _ _ => h2 .., fun _ _ _ _ _ _ => Le.cond (Le.bind (Le.refl _) fun _ => Le.bind (paper_IsName.le ..) fun _ => Le.cond (Le.refl _) (Le.bind (value_Clean.le ..) fun _ => Le.bind (value_Right.le ..) fun _ => Le.cond (Le.refl _) (h2 ..))) (Le.bind (paper_Tidy.le ..) fun _ => h3 ..), fun _ _ => Le.cond (Le.bind (Le.refl _) fun _ => Le.bind (Le.refl _) fun _ => Le.cond (Le.refl _) (h3 ..)) (Le.refl _)⟩
set_option maxRecDepth 100000 in
theorem paper_Check.le (k : Nat) : ∀ a0, Le (paper_Check.f k a0) (paper_Check.f (k + 1) a0) := (paper_Check.les k).1

set_option maxRecDepth 100000 in
theorem octet_Num.les (k : Nat) : (∀ a0, Le (octet_Num.f k a0) (octet_Num.f (k + 1) a0)) ∧ (∀ a0 a1, Le (octet_Num.l0 k a0 a1) (octet_Num.l0 (k + 1) a0 a1)) := by
  induction k with
  | zero => exact ⟨fun _ => Le.none _, fun _ _ => Le.none _⟩
  | succ k ih =>
    obtain ⟨h0, h1⟩ := ih
    exact ⟨fun _ => Le.cond (Le.refl _) (Le.cond (Le.refl _) (h1 ..)), fun _ _ => Le.cond (Le.bind (Le.refl _) fun _ => (by first | exact Le.bind (Le.refl _) (fun _ => h1 ..) | exact h1 ..)) (Le.bind (Le.refl _) fun _ => Le.refl _)⟩
set_option maxRecDepth 100000 in
theorem octet_Num.le (k : Nat) : ∀ a0, Le (octet_Num.f k a0) (octet_Num.f (k + 1) a0) := (octet_Num.les k).1

set_option maxRecDepth 100000 in
theorem octet_Text.les (k : Nat) : (∀ a0, Le (octet_Text.f k a0) (octet_Text.f (k + 1) a0)) := by
  induction k with
  | zero => exact fun _ => Le.none _
  | succ k ih =>
    have h0 := ih
    exact fun _ => Le.bind (octet_Num.le ..) fun _ => Le.bind (Le.refl _) fun _ => Le.refl _
set_option maxRecDepth 100000 in
theorem octet_Text.le (k : Nat) : ∀ a0, Le (octet_Text.f k a0) (octet_Text.f (k + 1) a0) := octet_Text.les k

set_option maxRecDepth 100000 in
theorem octet_Writer_Text.les (k : Nat) : (∀ a0 a1 a2, Le (octet_Writer_Text.f k a0 a1 a2) (octet_Writer_Text.f (k + 1) a0 a1 a2)) := by
  induction k with
  | zero => exact fun _ _ _ => Le.none _
  | succ k ih =>
    have h0 := ih
    exact fun _ _ _ => Le.bind (octet_Text.le ..) fun _ => Le.bind (Le.refl _) fun _ => Le.refl _
set_option maxRecDepth 100000 in
theorem octet_Writer_Text.le (k : Nat) : ∀ a0 a1 a2, Le (octet_Writer_Text.f k a0 a1 a2) (octet_Writer_Text.f (k + 1) a0 a1 a2) := octet_Writer_Text.les k

set_option maxRecDepth 100000 in
theorem octet_Writer_Num.les (k : Nat) : (∀ a0 a1 a2, Le (octet_Writer_Num.f k a0 a1 a2) (octet_Writer_Num.f (k + 1) a0 a1 a2)) := by
  induction k with
  | zero => exact fun _ _ _ => Le.none _
  | succ k ih =>
    have h0 := ih
    exact fun _ _ _ => Le.bind (octet_Num.le ..) fun _ => Le.cond (Le.bind (Le.refl _) fun _ => Le.refl _) (Le.bind (Le.refl _) fun _ => Le.refl _)
set_option maxRecDepth 100000 in
theorem octet_Writer_Num.le (k : Nat) : ∀ a0 a1 a2, Le (octet_Writer_Num.f k a0 a1 a2) (octet_Writer_Num.f (k + 1) a0 a1 a2) := octet_Writer_Num.les k

set_option maxRecDepth 100000 in
theorem octet_Writer_All.les (k : Nat) : (∀ a0 a1, Le (octet_Writer_All.f k a0 a1) (octet_Writer_All.f (k + 1) a0 a1)) := by
  induction k with
  | zero => exact fun _ _ => Le.none _
  | succ k ih =>
    have h0 := ih
    exact fun _ _ => Le.refl _
set_option maxRecDepth 100000 in
theorem octet_Writer_All.le (k : Nat) : ∀ a0 a1, Le (octet_Writer_All.f k a0 a1) (octet_Writer_All.f (k + 1) a0 a1) := octet_Writer_All.les k

set_option maxRecDepth 100000 in
theorem octet_Writer_Flag.les (k : Nat) : (∀ a0 a1 a2, Le (octet_Writer_Flag.f k a0 a1 a2) (octet_Writer_Flag.f (k + 1) a0 a1 a2)) := by
  induction k with
  | zero => exact fun _ _ _ => Le.none _
  | succ k ih =>
    have h0 := ih
    exact fun _ _ _ => Le.refl _
set_option maxRecDepth 100000 in
theorem octet_Writer_Flag.le (k : Nat) : ∀ a0 a1 a2, Le (octet_Writer_Flag.f k a0 a1 a2) (octet_Writer_Flag.f (k + 1) a0 a1 a2) := octet_Writer_Flag.les k

set_option maxRecDepth 100000 in
theorem octet_Writer_Raw.les (k : Nat) : (∀ a0 a1 a2, Le (octet_Writer_Raw.f k a0 a1 a2) (octet_Writer_Raw.f (k + 1) a0 a1 a2)) := by
  induction k with
  | zero => exact fun _ _ _ => Le.none _
  | succ k ih =>
    have h0 := ih
    exact fun _ _ _ => Le.refl _
set_option maxRecDepth 100000 in
theorem octet_Writer_Raw.le (k : Nat) : ∀ a0 a1 a2, Le (octet_Writer_Raw.f k a0 a1 a2) (octet_Writer_Raw.f (k + 1) a0 a1 a2) := octet_Writer_Raw.les k

set_option maxRecDepth 100000 in
theorem value_eight.les (k : Nat) : (∀ a0, Le (value_eight.f k a0) (value_eight.f (k + 1) a0)) ∧ (∀ a0 a1 a2 a3, Le (value_eight.l0 k a0 a1 a2 a3) (value_eight.l0 (k + 1) a0 a1 a2 a3)) := by
  induction k with
  | zero => exact ⟨fun _ => Le.none _, fun _ _ _ _ => Le.none _⟩
  | succ k ih =>
    obtain ⟨h0, h1⟩ := ih
    exact ⟨fun _ => (by first | exact Le.bind (Le.refl _) (fun _ => h1 ..) | exact h1 ..), fun _ _ _ _ => Le.cond (Le.bind (Le.refl _) fun _ => Le.bind (Le.refl _) fun _ => h1 ..) (Le.refl _)⟩
set_option maxRecDepth 100000 in
theorem value_eight.le (k : Nat) : ∀ a0, Le (value_eight.f k a0) (value_eight.f (k + 1) a0) := (value_eight.les k).1

set_option maxRecDepth 100000 in
theorem value_Bytes.les (k : Nat) : (∀ a0, Le (value_Bytes.f k a0) (value_Bytes.f (k + 1) a0)) ∧ (∀ a0 a1, Le (value_Bytes.j0 k a0 a1) (value_Bytes.j0 (k + 1) a0 a1)) := by
  induction k with
  | zero => exact ⟨fun _ => Le.none _, fun _ _ => Le.none _⟩
  | succ k ih =>
    obtain ⟨h0, h1⟩ := ih
    exact ⟨fun _ => Le.bind (value_Right.le ..) fun _ => Le.cond (Le.refl _) (Le.bind (octet_Writer_Num.le ..) fun _ => Le.cond (Le.bind (octet_Writer_Flag.le ..) fun _ => h1 ..) (Le.cond (Le.bind (value_eight.le ..) fun _ => Le.bind (octet_Writer_Raw.le ..) fun _ => h1 ..) (Le.cond (Le.bind (value_eight.le ..) fun _ => Le.bind (octet_Writer_Raw.le ..) fun _ => h1 ..) (Le.cond (Le.bind (octet_Writer_Text.le ..) fun _ => h1 ..) (h1 ..))))), fun _ _ => Le.bind (octet_Writer_All.le ..) fun _ => Le.refl _⟩
set_option maxRecDepth 100000 in
theorem value_Bytes.le (k : Nat) : ∀ a0, Le (value_Bytes.f k a0) (value_Bytes.f (k + 1) a0) := (value_Bytes.les k).1

set_option maxRecDepth 100000 in
theorem paper_Bytes.les (k : Nat) : (∀ a0, Le (paper_Bytes.f k a0) (paper_Bytes.f (k + 1) a0)) ∧ (∀ a0 a1 a2 a3 a4, Le (paper_Bytes.l0 k a0 a1 a2 a3 a4) (paper_Bytes.l0 (k + 1) a0 a1 a2 a3 a4)) := by
  induction k with
  | zero => exact ⟨fun _ => Le.none _, fun _ _ _ _ _ => Le.none _⟩
  | succ k ih =>
    obtain ⟨h0, h1⟩ := ih
    exact ⟨fun _ => Le.bind (paper_Check.le ..) fun _ => Le.cond (Le.refl _) (Le.bind (paper_Tidy.le ..) fun _ => Le.bind (octet_Writer_Text.le ..) fun _ => Le.bind (octet_Writer_Num.le ..) fun _ => Le.bind (octet_Writer_Num.le ..) fun _ => h1 ..), fun _ _ _ _ _ => Le.cond (Le.bind (Le.refl _) fun _ => Le.bind (octet_Writer_Text.le ..) fun _ => Le.bind (value_Bytes.le ..) fun _ => Le.bind (octet_Writer_Text.le ..) fun _ => h1 ..) (Le.bind (octet_Writer_All.le ..) fun _ => Le.refl _)⟩
set_option maxRecDepth 100000 in
theorem paper_Bytes.le (k : Nat) : ∀ a0, Le (paper_Bytes.f k a0) (paper_Bytes.f (k + 1) a0) := (paper_Bytes.les k).1

set_option maxRecDepth 100000 in
theorem chartularylaw05_awake.les (k : Nat) : (Le (chartularylaw05_awake.f k) (chartularylaw05_awake.f (k + 1))) := by
  induction k with
  | zero => exact Le.none _
  | succ k ih =>
    have h0 := ih
    exact Le.bind (paper_Bytes.le ..) fun _ => Le.cond (Le.refl _) (Le.refl _)
set_option maxRecDepth 100000 in
theorem chartularylaw05_awake.le (k : Nat) : Le (chartularylaw05_awake.f k) (chartularylaw05_awake.f (k + 1)) := chartularylaw05_awake.les k

set_option maxRecDepth 100000 in
theorem chartularylaw05_Few.les (k : Nat) : (∀ a0, Le (chartularylaw05_Few.f k a0) (chartularylaw05_Few.f (k + 1) a0)) ∧ (∀ a0 a1 a2 a3 a4 a5 a6 a7 a8, Le (chartularylaw05_Few.j0 k a0 a1 a2 a3 a4 a5 a6 a7 a8) (chartularylaw05_Few.j0 (k + 1) a0 a1 a2 a3 a4 a5 a6 a7 a8)) ∧ (∀ a0 a1 a2 a3 a4 a5 a6 a7 a8 a9, Le (chartularylaw05_Few.l0 k a0 a1 a2 a3 a4 a5 a6 a7 a8 a9) (chartularylaw05_Few.l0 (k + 1) a0 a1 a2 a3 a4 a5 a6 a7 a8 a9)) := by
  induction k with
  | zero => exact ⟨fun _ => Le.none _, fun _ _ _ _ _ _ _ _ _ => Le.none _, fun _ _ _ _ _ _ _ _ _ _ => Le.none _⟩
  | succ k ih =>
    obtain ⟨h0, h1, h2⟩ := ih
    exact ⟨fun _ => Le.cond (Le.bind (Le.refl _) fun _ => h1 ..) (h1 ..), fun _ _ _ _ _ _ _ _ _ => h2 .., fun _ _ _ _ _ _ _ _ _ _ => Le.cond (Le.cond (Le.bind (Le.refl _) fun _ => Le.cond (Le.bind (Le.refl _) fun _ => Le.cond (Le.bind (Le.refl _) fun _ => Le.bind (Le.refl _) fun _ => h2 ..) (Le.bind (Le.refl _) fun _ => h2 ..)) (Le.cond (Le.bind (Le.refl _) fun _ => Le.bind (Le.refl _) fun _ => h2 ..) (Le.bind (Le.refl _) fun _ => h2 ..))) (Le.refl _)) (Le.refl _)⟩
set_option maxRecDepth 100000 in
theorem chartularylaw05_Few.le (k : Nat) : ∀ a0, Le (chartularylaw05_Few.f k a0) (chartularylaw05_Few.f (k + 1) a0) := (chartularylaw05_Few.les k).1

set_option maxRecDepth 100000 in
theorem chartularylaw05_same.les (k : Nat) : (∀ a0 a1, Le (chartularylaw05_same.f k a0 a1) (chartularylaw05_same.f (k + 1) a0 a1)) ∧ (∀ a0 a1 a2 a3 a4 a5, Le (chartularylaw05_same.j0 k a0 a1 a2 a3 a4 a5) (chartularylaw05_same.j0 (k + 1) a0 a1 a2 a3 a4 a5)) ∧ (∀ a0 a1 a2 a3 a4 a5 a6, Le (chartularylaw05_same.l0 k a0 a1 a2 a3 a4 a5 a6) (chartularylaw05_same.l0 (k + 1) a0 a1 a2 a3 a4 a5 a6)) := by
  induction k with
  | zero => exact ⟨fun _ _ => Le.none _, fun _ _ _ _ _ _ => Le.none _, fun _ _ _ _ _ _ _ => Le.none _⟩
  | succ k ih =>
    obtain ⟨h0, h1, h2⟩ := ih
    exact ⟨fun _ _ => Le.cond (Le.refl _) (Le.cond (Le.refl _) (Le.cond (Le.refl _) (h1 ..))), fun _ _ _ _ _ _ => h2 .., fun _ _ _ _ _ _ _ => Le.cond (Le.bind (Le.refl _) fun _ => Le.bind (Le.refl _) fun _ => Le.cond (Le.refl _) (h2 ..)) (Le.refl _)⟩
set_option maxRecDepth 100000 in
theorem chartularylaw05_same.le (k : Nat) : ∀ a0 a1, Le (chartularylaw05_same.f k a0 a1) (chartularylaw05_same.f (k + 1) a0 a1) := (chartularylaw05_same.les k).1

set_option maxRecDepth 100000 in
theorem chartularylaw05_tidy.les (k : Nat) : (∀ a0, Le (chartularylaw05_tidy.f k a0) (chartularylaw05_tidy.f (k + 1) a0)) ∧ (∀ a0 a1 a2 a3 a4 a5 a6 a7 a8 a9, Le (chartularylaw05_tidy.l0 k a0 a1 a2 a3 a4 a5 a6 a7 a8 a9) (chartularylaw05_tidy.l0 (k + 1) a0 a1 a2 a3 a4 a5 a6 a7 a8 a9)) ∧ (∀ a0 a1 a2 a3 a4 a5 a6 a7 a8 a9 a10 a11 a12, Le (chartularylaw05_tidy.l1 k a0 a1 a2 a3 a4 a5 a6 a7 a8 a9 a10 a11 a12) (chartularylaw05_tidy.l1 (k + 1) a0 a1 a2 a3 a4 a5 a6 a7 a8 a9 a10 a11 a12)) := by
  induction k with
  | zero => exact ⟨fun _ => Le.none _, fun _ _ _ _ _ _ _ _ _ _ => Le.none _, fun _ _ _ _ _ _ _ _ _ _ _ _ _ => Le.none _⟩
  | succ k ih =>
    obtain ⟨h0, h1, h2⟩ := ih
    exact ⟨fun _ => h1 .., fun _ _ _ _ _ _ _ _ _ _ => Le.cond (Le.bind (Le.refl _) fun _ => Le.bind (Le.refl _) fun _ => Le.bind (value_Clean.le ..) fun _ => h2 ..) (Le.refl _), fun _ _ _ _ _ _ _ _ _ _ _ _ _ => Le.cond (Le.bind (Le.refl _) fun _ => Le.bind (Le.refl _) fun _ => Le.cond (h2 ..) (Le.bind (Le.refl _) fun _ => Le.bind (Le.refl _) fun _ => Le.bind (Le.refl _) fun _ => Le.bind (Le.refl _) fun _ => Le.bind (Le.refl _) fun _ => h1 ..)) (Le.bind (Le.refl _) fun _ => Le.bind (Le.refl _) fun _ => Le.bind (Le.refl _) fun _ => Le.bind (Le.refl _) fun _ => Le.bind (Le.refl _) fun _ => h1 ..)⟩
set_option maxRecDepth 100000 in
theorem chartularylaw05_tidy.le (k : Nat) : ∀ a0, Le (chartularylaw05_tidy.f k a0) (chartularylaw05_tidy.f (k + 1) a0) := (chartularylaw05_tidy.les k).1

set_option maxRecDepth 100000 in
theorem chartularylaw05_word.les (k : Nat) : (∀ a0 a1, Le (chartularylaw05_word.f k a0 a1) (chartularylaw05_word.f (k + 1) a0 a1)) ∧ (∀ a0 a1 a2, Le (chartularylaw05_word.l0 k a0 a1 a2) (chartularylaw05_word.l0 (k + 1) a0 a1 a2)) := by
  induction k with
  | zero => exact ⟨fun _ _ => Le.none _, fun _ _ _ => Le.none _⟩
  | succ k ih =>
    obtain ⟨h0, h1⟩ := ih
    exact ⟨fun _ _ => h1 .., fun _ _ _ => Le.cond (Le.bind (Le.refl _) fun _ => Le.cond (Le.cond (h1 ..) (Le.cond (Le.cond (Le.cond (Le.cond (Le.cond (Le.cond (Le.cond (Le.refl _) (h1 ..)) (h1 ..)) (h1 ..)) (h1 ..)) (Le.cond (Le.cond (Le.cond (Le.refl _) (h1 ..)) (h1 ..)) (h1 ..))) (h1 ..)) (Le.cond (Le.cond (Le.cond (Le.cond (Le.cond (Le.refl _) (h1 ..)) (h1 ..)) (h1 ..)) (h1 ..)) (Le.cond (Le.cond (Le.cond (Le.refl _) (h1 ..)) (h1 ..)) (h1 ..))))) (Le.cond (Le.cond (Le.cond (Le.cond (Le.cond (Le.cond (Le.cond (Le.refl _) (h1 ..)) (h1 ..)) (h1 ..)) (h1 ..)) (Le.cond (Le.cond (Le.cond (Le.refl _) (h1 ..)) (h1 ..)) (h1 ..))) (h1 ..)) (Le.cond (Le.cond (Le.cond (Le.cond (Le.cond (Le.refl _) (h1 ..)) (h1 ..)) (h1 ..)) (h1 ..)) (Le.cond (Le.cond (Le.cond (Le.refl _) (h1 ..)) (h1 ..)) (h1 ..))))) (Le.cond (Le.refl _) (Le.refl _))⟩
set_option maxRecDepth 100000 in
theorem chartularylaw05_word.le (k : Nat) : ∀ a0 a1, Le (chartularylaw05_word.f k a0 a1) (chartularylaw05_word.f (k + 1) a0 a1) := (chartularylaw05_word.les k).1

set_option maxRecDepth 100000 in
theorem chartularylaw05_check.les (k : Nat) : (∀ a0, Le (chartularylaw05_check.f k a0) (chartularylaw05_check.f (k + 1) a0)) ∧ (∀ a0 a1 a2, Le (chartularylaw05_check.j0 k a0 a1 a2) (chartularylaw05_check.j0 (k + 1) a0 a1 a2)) ∧ (∀ a0 a1 a2 a3, Le (chartularylaw05_check.l0 k a0 a1 a2 a3) (chartularylaw05_check.l0 (k + 1) a0 a1 a2 a3)) ∧ (∀ a0 a1 a2 a3, Le (chartularylaw05_check.l1 k a0 a1 a2 a3) (chartularylaw05_check.l1 (k + 1) a0 a1 a2 a3)) ∧ (∀ a0 a1 a2 a3 a4, Le (chartularylaw05_check.l2 k a0 a1 a2 a3 a4) (chartularylaw05_check.l2 (k + 1) a0 a1 a2 a3 a4)) := by
  induction k with
  | zero => exact ⟨fun _ => Le.none _, fun _ _ _ => Le.none _, fun _ _ _ _ => Le.none _, fun _ _ _ _ => Le.none _, fun _ _ _ _ _ => Le.none _⟩
  | succ k ih =>
    obtain ⟨h0, h1, h2, h3, h4⟩ := ih
    exact ⟨fun _ => Le.bind (chartularylaw05_word.le ..) fun _ => Le.cond (Le.refl _) (Le.cond (Le.refl _) (Le.cond (Le.refl _) (Le.cond (Le.refl _) (Le.cond (Le.refl _) (h1 ..))))), fun _ _ _ => h2 .., fun _ _ _ _ => Le.cond (Le.bind (Le.refl _) fun _ => Le.bind (chartularylaw05_word.le ..) fun _ => Le.cond (Le.refl _) (Le.bind (Le.refl _) fun _ => Le.bind (value_Clean.le ..) fun _ => Le.bind (value_Right.le ..) fun _ => Le.cond (Le.refl _) (h2 ..))) (h3 ..), fun _ _ _ _ => Le.cond (h4 ..) (Le.refl _), fun _ _ _ _ _ => Le.cond (Le.bind (Le.refl _) fun _ => Le.bind (Le.refl _) fun _ => Le.cond (Le.refl _) (h4 ..)) (h3 ..)⟩
set_option maxRecDepth 100000 in
theorem chartularylaw05_check.le (k : Nat) : ∀ a0, Le (chartularylaw05_check.f k a0) (chartularylaw05_check.f (k + 1) a0) := (chartularylaw05_check.les k).1

set_option maxRecDepth 100000 in
theorem chartularylaw05_PaperChecks.les (k : Nat) : (∀ a0, Le (chartularylaw05_PaperChecks.f k a0) (chartularylaw05_PaperChecks.f (k + 1) a0)) := by
  induction k with
  | zero => exact fun _ => Le.none _
  | succ k ih =>
    have h0 := ih
    exact fun _ => Le.bind (chartularylaw05_Few.le ..) fun _ => Le.bind (paper_Tidy.le ..) fun _ => Le.bind (chartularylaw05_tidy.le ..) fun _ => Le.bind (chartularylaw05_same.le ..) fun _ => Le.cond (Le.bind (paper_Check.le ..) fun _ => Le.bind (chartularylaw05_check.le ..) fun _ => Le.cond (Le.bind (chartularylaw05_awake.le ..) fun _ => Le.refl _) (Le.refl _)) (Le.refl _)
set_option maxRecDepth 100000 in
theorem chartularylaw05_PaperChecks.le (k : Nat) : ∀ a0, Le (chartularylaw05_PaperChecks.f k a0) (chartularylaw05_PaperChecks.f (k + 1) a0) := chartularylaw05_PaperChecks.les k

set_option maxRecDepth 100000 in
theorem paper_Find_1_v0.les (k : Nat) : (∀ a0 a1, Le (paper_Find_1_v0.f k a0 a1) (paper_Find_1_v0.f (k + 1) a0 a1)) := by
  induction k with
  | zero => exact fun _ _ => Le.none _
  | succ k ih =>
    have h0 := ih
    exact fun _ _ => Le.refl _
set_option maxRecDepth 100000 in
theorem paper_Find_1_v0.le (k : Nat) : ∀ a0 a1, Le (paper_Find_1_v0.f k a0 a1) (paper_Find_1_v0.f (k + 1) a0 a1) := paper_Find_1_v0.les k

set_option maxRecDepth 100000 in
theorem slices_IndexFunc_api_Field_v0.les (k : Nat) : (∀ a0 a1, Le (slices_IndexFunc_api_Field_v0.f k a0 a1) (slices_IndexFunc_api_Field_v0.f (k + 1) a0 a1)) ∧ (∀ a0 a1 a2 a3, Le (slices_IndexFunc_api_Field_v0.l0 k a0 a1 a2 a3) (slices_IndexFunc_api_Field_v0.l0 (k + 1) a0 a1 a2 a3)) := by
  induction k with
  | zero => exact ⟨fun _ _ => Le.none _, fun _ _ _ _ => Le.none _⟩
  | succ k ih =>
    obtain ⟨h0, h1⟩ := ih
    exact ⟨fun _ _ => h1 .., fun _ _ _ _ => Le.cond (Le.bind (Le.refl _) fun _ => Le.bind (paper_Find_1_v0.le ..) fun _ => Le.cond (Le.refl _) (h1 ..)) (Le.refl _)⟩
set_option maxRecDepth 100000 in
theorem slices_IndexFunc_api_Field_v0.le (k : Nat) : ∀ a0 a1, Le (slices_IndexFunc_api_Field_v0.f k a0 a1) (slices_IndexFunc_api_Field_v0.f (k + 1) a0 a1) := (slices_IndexFunc_api_Field_v0.les k).1

set_option maxRecDepth 100000 in
theorem paper_Find.les (k : Nat) : (∀ a0 a1, Le (paper_Find.f k a0 a1) (paper_Find.f (k + 1) a0 a1)) := by
  induction k with
  | zero => exact fun _ _ => Le.none _
  | succ k ih =>
    have h0 := ih
    exact fun _ _ => Le.bind (slices_IndexFunc_api_Field_v0.le ..) fun _ => Le.refl _
set_option maxRecDepth 100000 in
theorem paper_Find.le (k : Nat) : ∀ a0 a1, Le (paper_Find.f k a0 a1) (paper_Find.f (k + 1) a0 a1) := paper_Find.les k

set_option maxRecDepth 100000 in
theorem slices_Equal_api_Field.les (k : Nat) : (∀ a0 a1, Le (slices_Equal_api_Field.f k a0 a1) (slices_Equal_api_Field.f (k + 1) a0 a1)) ∧ (∀ a0 a1 a2 a3, Le (slices_Equal_api_Field.l0 k a0 a1 a2 a3) (slices_Equal_api_Field.l0 (k + 1) a0 a1 a2 a3)) := by
  induction k with
  | zero => exact ⟨fun _ _ => Le.none _, fun _ _ _ _ => Le.none _⟩
  | succ k ih =>
    obtain ⟨h0, h1⟩ := ih
    exact ⟨fun _ _ => Le.cond (Le.refl _) (h1 ..), fun _ _ _ _ => Le.cond (Le.bind (Le.refl _) fun _ => Le.bind (Le.refl _) fun _ => Le.cond (Le.refl _) (h1 ..)) (Le.refl _)⟩
set_option maxRecDepth 100000 in
theorem slices_Equal_api_Field.le (k : Nat) : ∀ a0 a1, Le (slices_Equal_api_Field.f k a0 a1) (slices_Equal_api_Field.f (k + 1) a0 a1) := (slices_Equal_api_Field.les k).1

set_option maxRecDepth 100000 in
theorem paper_Same.les (k : Nat) : (∀ a0 a1, Le (paper_Same.f k a0 a1) (paper_Same.f (k + 1) a0 a1)) := by
  induction k with
  | zero => exact fun _ _ => Le.none _
  | succ k ih =>
    have h0 := ih
    exact fun _ _ => Le.bind (paper_Tidy.le ..) fun _ => Le.bind (paper_Tidy.le ..) fun _ => Le.cond (Le.cond (Le.bind (slices_Equal_api_Field.le ..) fun _ => Le.refl _) (Le.refl _)) (Le.refl _)
set_option maxRecDepth 100000 in
theorem paper_Same.le (k : Nat) : ∀ a0 a1, Le (paper_Same.f k a0 a1) (paper_Same.f (k + 1) a0 a1) := paper_Same.les k

set_option maxRecDepth 100000 in
theorem chartularylaw05_PaperSames.les (k : Nat) : (∀ a0 a1 a2, Le (chartularylaw05_PaperSames.f k a0 a1 a2) (chartularylaw05_PaperSames.f (k + 1) a0 a1 a2)) ∧ (∀ a0 a1 a2 a3 a4 a5 a6 a7 a8, Le (chartularylaw05_PaperSames.l0 k a0 a1 a2 a3 a4 a5 a6 a7 a8) (chartularylaw05_PaperSames.l0 (k + 1) a0 a1 a2 a3 a4 a5 a6 a7 a8)) ∧ (∀ a0 a1 a2 a3 a4 a5 a6, Le (chartularylaw05_PaperSames.j0 k a0 a1 a2 a3 a4 a5 a6) (chartularylaw05_PaperSames.j0 (k + 1) a0 a1 a2 a3 a4 a5 a6)) := by
  induction k with
  | zero => exact ⟨fun _ _ _ => Le.none _, fun _ _ _ _ _ _ _ _ _ => Le.none _, fun _ _ _ _ _ _ _ => Le.none _⟩
  | succ k ih =>
    obtain ⟨h0, h1, h2⟩ := ih
    exact ⟨fun _ _ _ => Le.bind (chartularylaw05_Few.le ..) fun _ => Le.bind (chartularylaw05_Few.le ..) fun _ => h1 .., fun _ _ _ _ _ _ _ _ _ => Le.cond (Le.bind (Le.refl _) fun _ => Le.cond (h1 ..) (h1 ..)) (Le.bind (chartularylaw05_tidy.le ..) fun _ => Le.bind (chartularylaw05_tidy.le ..) fun _ => Le.bind (chartularylaw05_same.le ..) fun _ => Le.bind (paper_Find.le ..) fun _ => Le.cond (Le.refl _) (Le.bind (paper_Same.le ..) fun _ => Le.cond (Le.refl _) (h2 ..))), fun _ _ _ _ _ _ _ => Le.bind (paper_Bytes.le ..) fun _ => Le.bind (paper_Bytes.le ..) fun _ => Le.cond (Le.bind (chartularylaw05_awake.le ..) fun _ => Le.refl _) (Le.cond (Le.bind (chartularylaw05_awake.le ..) fun _ => Le.refl _) (Le.cond (Le.bind (chartularylaw05_awake.le ..) fun _ => Le.refl _) (Le.refl _)))⟩
set_option maxRecDepth 100000 in
theorem chartularylaw05_PaperSames.le (k : Nat) : ∀ a0 a1 a2, Le (chartularylaw05_PaperSames.f k a0 a1 a2) (chartularylaw05_PaperSames.f (k + 1) a0 a1 a2) := (chartularylaw05_PaperSames.les k).1

set_option maxRecDepth 100000 in
theorem octet_Read.les (k : Nat) : (∀ a0, Le (octet_Read.f k a0) (octet_Read.f (k + 1) a0)) := by
  induction k with
  | zero => exact fun _ => Le.none _
  | succ k ih =>
    have h0 := ih
    exact fun _ => Le.refl _
set_option maxRecDepth 100000 in
theorem octet_Read.le (k : Nat) : ∀ a0, Le (octet_Read.f k a0) (octet_Read.f (k + 1) a0) := octet_Read.les k

set_option maxRecDepth 100000 in
theorem octet_Reader_Err.les (k : Nat) : (∀ a0 a1 a2, Le (octet_Reader_Err.f k a0 a1 a2) (octet_Reader_Err.f (k + 1) a0 a1 a2)) := by
  induction k with
  | zero => exact fun _ _ _ => Le.none _
  | succ k ih =>
    have h0 := ih
    exact fun _ _ _ => Le.refl _
set_option maxRecDepth 100000 in
theorem octet_Reader_Err.le (k : Nat) : ∀ a0 a1 a2, Le (octet_Reader_Err.f k a0 a1 a2) (octet_Reader_Err.f (k + 1) a0 a1 a2) := octet_Reader_Err.les k

set_option maxRecDepth 100000 in
theorem octet_Reader_Fail.les (k : Nat) : (∀ a0 a1 a2 a3, Le (octet_Reader_Fail.f k a0 a1 a2 a3) (octet_Reader_Fail.f (k + 1) a0 a1 a2 a3)) := by
  induction k with
  | zero => exact fun _ _ _ _ => Le.none _
  | succ k ih =>
    have h0 := ih
    exact fun _ _ _ _ => Le.refl _
set_option maxRecDepth 100000 in
theorem octet_Reader_Fail.le (k : Nat) : ∀ a0 a1 a2 a3, Le (octet_Reader_Fail.f k a0 a1 a2 a3) (octet_Reader_Fail.f (k + 1) a0 a1 a2 a3) := octet_Reader_Fail.les k

set_option maxRecDepth 100000 in
theorem octet_Reader_Raw.les (k : Nat) : (∀ a0 a1 a2 a3, Le (octet_Reader_Raw.f k a0 a1 a2 a3) (octet_Reader_Raw.f (k + 1) a0 a1 a2 a3)) := by
  induction k with
  | zero => exact fun _ _ _ _ => Le.none _
  | succ k ih =>
    have h0 := ih
    exact fun _ _ _ _ => Le.bind (octet_Reader_Err.le ..) fun _ => Le.cond (Le.refl _) (Le.cond (Le.bind (octet_Reader_Fail.le ..) fun _ => Le.refl _) (Le.cond (Le.bind (octet_Reader_Fail.le ..) fun _ => Le.refl _) (Le.bind (Le.refl _) fun _ => Le.refl _)))
set_option maxRecDepth 100000 in
theorem octet_Reader_Raw.le (k : Nat) : ∀ a0 a1 a2 a3, Le (octet_Reader_Raw.f k a0 a1 a2 a3) (octet_Reader_Raw.f (k + 1) a0 a1 a2 a3) := octet_Reader_Raw.les k

set_option maxRecDepth 100000 in
theorem octet_Reader_Num.les (k : Nat) : (∀ a0 a1 a2 a3, Le (octet_Reader_Num.f k a0 a1 a2 a3) (octet_Reader_Num.f (k + 1) a0 a1 a2 a3)) ∧ (∀ a0 a1 a2 a3 a4 a5 a6 a7, Le (octet_Reader_Num.l0 k a0 a1 a2 a3 a4 a5 a6 a7) (octet_Reader_Num.l0 (k + 1) a0 a1 a2 a3 a4 a5 a6 a7)) := by
  induction k with
  | zero => exact ⟨fun _ _ _ _ => Le.none _, fun _ _ _ _ _ _ _ _ => Le.none _⟩
  | succ k ih =>
    obtain ⟨h0, h1⟩ := ih
    exact ⟨fun _ _ _ _ => Le.bind (octet_Reader_Raw.le ..) fun _ => Le.cond (Le.refl _) (Le.bind (Le.refl _) fun _ => Le.cond (Le.bind (octet_Reader_Fail.le ..) fun _ => Le.refl _) (Le.bind (octet_Reader_Raw.le ..) fun _ => h1 ..)), fun _ _ _ _ _ _ _ _ => Le.cond (Le.bind (Le.refl _) fun _ => Le.cond (Le.cond (Le.bind (octet_Reader_Fail.le ..) fun _ => Le.refl _) ((by first | exact Le.bind (Le.refl _) (fun _ => h1 ..) | exact h1 ..))) ((by first | exact Le.bind (Le.refl _) (fun _ => h1 ..) | exact h1 ..))) (Le.bind (octet_Reader_Err.le ..) fun _ => Le.cond (Le.refl _) (Le.cond (Le.bind (octet_Reader_Fail.le ..) fun _ => Le.refl _) (Le.refl _)))⟩
set_option maxRecDepth 100000 in
theorem octet_Reader_Num.le (k : Nat) : ∀ a0 a1 a2 a3, Le (octet_Reader_Num.f k a0 a1 a2 a3) (octet_Reader_Num.f (k + 1) a0 a1 a2 a3) := (octet_Reader_Num.les k).1

set_option maxRecDepth 100000 in
theorem octet_Reader_Text.les (k : Nat) : (∀ a0 a1 a2 a3, Le (octet_Reader_Text.f k a0 a1 a2 a3) (octet_Reader_Text.f (k + 1) a0 a1 a2 a3)) := by
  induction k with
  | zero => exact fun _ _ _ _ => Le.none _
  | succ k ih =>
    have h0 := ih
    exact fun _ _ _ _ => Le.bind (octet_Reader_Num.le ..) fun _ => Le.bind (octet_Reader_Raw.le ..) fun _ => Le.refl _
set_option maxRecDepth 100000 in
theorem octet_Reader_Text.le (k : Nat) : ∀ a0 a1 a2 a3, Le (octet_Reader_Text.f k a0 a1 a2 a3) (octet_Reader_Text.f (k + 1) a0 a1 a2 a3) := octet_Reader_Text.les k

set_option maxRecDepth 100000 in
theorem octet_Reader_Left.les (k : Nat) : (∀ a0 a1 a2, Le (octet_Reader_Left.f k a0 a1 a2) (octet_Reader_Left.f (k + 1) a0 a1 a2)) := by
  induction k with
  | zero => exact fun _ _ _ => Le.none _
  | succ k ih =>
    have h0 := ih
    exact fun _ _ _ => Le.bind (octet_Reader_Err.le ..) fun _ => Le.cond (Le.refl _) (Le.refl _)
set_option maxRecDepth 100000 in
theorem octet_Reader_Left.le (k : Nat) : ∀ a0 a1 a2, Le (octet_Reader_Left.f k a0 a1 a2) (octet_Reader_Left.f (k + 1) a0 a1 a2) := octet_Reader_Left.les k

set_option maxRecDepth 100000 in
theorem octet_Reader_End.les (k : Nat) : (∀ a0 a1 a2, Le (octet_Reader_End.f k a0 a1 a2) (octet_Reader_End.f (k + 1) a0 a1 a2)) := by
  induction k with
  | zero => exact fun _ _ _ => Le.none _
  | succ k ih =>
    have h0 := ih
    exact fun _ _ _ => Le.bind (octet_Reader_Left.le ..) fun _ => Le.cond (Le.bind (octet_Reader_Fail.le ..) fun _ => Le.bind (octet_Reader_Err.le ..) fun _ => Le.refl _) (Le.bind (octet_Reader_Err.le ..) fun _ => Le.refl _)
set_option maxRecDepth 100000 in
theorem octet_Reader_End.le (k : Nat) : ∀ a0 a1 a2, Le (octet_Reader_End.f k a0 a1 a2) (octet_Reader_End.f (k + 1) a0 a1 a2) := octet_Reader_End.les k

set_option maxRecDepth 100000 in
theorem octet_Reader_Flag.les (k : Nat) : (∀ a0 a1 a2, Le (octet_Reader_Flag.f k a0 a1 a2) (octet_Reader_Flag.f (k + 1) a0 a1 a2)) := by
  induction k with
  | zero => exact fun _ _ _ => Le.none _
  | succ k ih =>
    have h0 := ih
    exact fun _ _ _ => Le.bind (octet_Reader_Raw.le ..) fun _ => Le.cond (Le.bind (octet_Reader_Fail.le ..) fun _ => Le.refl _) (Le.refl _)
set_option maxRecDepth 100000 in
theorem octet_Reader_Flag.le (k : Nat) : ∀ a0 a1 a2, Le (octet_Reader_Flag.f k a0 a1 a2) (octet_Reader_Flag.f (k + 1) a0 a1 a2) := octet_Reader_Flag.les k

set_option maxRecDepth 100000 in
theorem value_of.les (k : Nat) : (∀ a0, Le (value_of.f k a0) (value_of.f (k + 1) a0)) ∧ (∀ a0 a1 a2 a3, Le (value_of.l0 k a0 a1 a2 a3) (value_of.l0 (k + 1) a0 a1 a2 a3)) := by
  induction k with
  | zero => exact ⟨fun _ => Le.none _, fun _ _ _ _ => Le.none _⟩
  | succ k ih =>
    obtain ⟨h0, h1⟩ := ih
    exact ⟨fun _ => h1 .., fun _ _ _ _ => Le.cond (Le.bind (Le.refl _) fun _ => (by first | exact Le.bind (Le.refl _) (fun _ => h1 ..) | exact h1 ..)) (Le.refl _)⟩
set_option maxRecDepth 100000 in
theorem value_of.le (k : Nat) : ∀ a0, Le (value_of.f k a0) (value_of.f (k + 1) a0) := (value_of.les k).1

set_option maxRecDepth 100000 in
theorem value_Read.les (k : Nat) : (∀ a0, Le (value_Read.f k a0) (value_Read.f (k + 1) a0)) ∧ (∀ a0 a1 a2 a3 a4 a5 a6 a7 a8 a9 a10 a11 a12, Le (value_Read.j0 k a0 a1 a2 a3 a4 a5 a6 a7 a8 a9 a10 a11 a12) (value_Read.j0 (k + 1) a0 a1 a2 a3 a4 a5 a6 a7 a8 a9 a10 a11 a12)) := by
  induction k with
  | zero => exact ⟨fun _ => Le.none _, fun _ _ _ _ _ _ _ _ _ _ _ _ _ => Le.none _⟩
  | succ k ih =>
    obtain ⟨h0, h1⟩ := ih
    exact ⟨fun _ => Le.bind (octet_Read.le ..) fun _ => Le.bind (octet_Reader_Num.le ..) fun _ => Le.cond (Le.bind (octet_Reader_Flag.le ..) fun _ => h1 ..) (Le.cond (Le.bind (octet_Reader_Raw.le ..) fun _ => Le.bind (value_of.le ..) fun _ => h1 ..) (Le.cond (Le.bind (octet_Reader_Raw.le ..) fun _ => Le.bind (value_of.le ..) fun _ => h1 ..) (Le.cond (Le.bind (octet_Reader_Text.le ..) fun _ => h1 ..) (h1 ..)))), fun _ _ _ _ _ _ _ _ _ _ _ _ _ => Le.bind (octet_Reader_End.le ..) fun _ => Le.cond (Le.refl _) (Le.bind (value_Right.le ..) fun _ => Le.cond (Le.refl _) (Le.refl _))⟩
set_option maxRecDepth 100000 in
theorem value_Read.le (k : Nat) : ∀ a0, Le (value_Read.f k a0) (value_Read.f (k + 1) a0) := (value_Read.les k).1

set_option maxRecDepth 100000 in
theorem paper_Read.les (k : Nat) : (∀ a0, Le (paper_Read.f k a0) (paper_Read.f (k + 1) a0)) ∧ (∀ a0 a1 a2 a3 a4 a5 a6 a7 a8 a9 a10 a11, Le (paper_Read.l0 k a0 a1 a2 a3 a4 a5 a6 a7 a8 a9 a10 a11) (paper_Read.l0 (k + 1) a0 a1 a2 a3 a4 a5 a6 a7 a8 a9 a10 a11)) ∧ (∀ a0 a1 a2 a3 a4 a5 a6 a7 a8 a9, Le (paper_Read.j0 k a0 a1 a2 a3 a4 a5 a6 a7 a8 a9) (paper_Read.j0 (k + 1) a0 a1 a2 a3 a4 a5 a6 a7 a8 a9)) := by
  induction k with
  | zero => exact ⟨fun _ => Le.none _, fun _ _ _ _ _ _ _ _ _ _ _ _ => Le.none _, fun _ _ _ _ _ _ _ _ _ _ => Le.none _⟩
  | succ k ih =>
    obtain ⟨h0, h1, h2⟩ := ih
    exact ⟨fun _ => Le.bind (octet_Read.le ..) fun _ => Le.bind (octet_Reader_Text.le ..) fun _ => Le.bind (octet_Reader_Num.le ..) fun _ => Le.bind (octet_Reader_Num.le ..) fun _ => h1 .., fun _ _ _ _ _ _ _ _ _ _ _ _ => Le.cond (Le.bind (octet_Reader_Text.le ..) fun _ => Le.bind (octet_Reader_Text.le ..) fun _ => Le.bind (octet_Reader_Err.le ..) fun _ => Le.cond (h2 ..) (Le.bind (value_Read.le ..) fun _ => Le.bind (octet_Reader_Fail.le ..) fun _ => Le.bind (Le.refl _) fun _ => h1 ..)) (h2 ..), fun _ _ _ _ _ _ _ _ _ _ => Le.bind (octet_Reader_End.le ..) fun _ => Le.cond (Le.refl _) (Le.bind (paper_Bytes.le ..) fun _ => Le.cond (Le.refl _) (Le.cond (Le.refl _) (Le.refl _)))⟩
set_option maxRecDepth 100000 in
theorem paper_Read.le (k : Nat) : ∀ a0, Le (paper_Read.f k a0) (paper_Read.f (k + 1) a0) := (paper_Read.les k).1

set_option maxRecDepth 100000 in
theorem chartularylaw05_bytes.les (k : Nat) : (∀ a0, Le (chartularylaw05_bytes.f k a0) (chartularylaw05_bytes.f (k + 1) a0)) ∧ (∀ a0 a1 a2 a3 a4, Le (chartularylaw05_bytes.l0 k a0 a1 a2 a3 a4) (chartularylaw05_bytes.l0 (k + 1) a0 a1 a2 a3 a4)) := by
  induction k with
  | zero => exact ⟨fun _ => Le.none _, fun _ _ _ _ _ => Le.none _⟩
  | succ k ih =>
    obtain ⟨h0, h1⟩ := ih
    exact ⟨fun _ => Le.bind (octet_Text.le ..) fun _ => Le.bind (octet_Num.le ..) fun _ => Le.bind (Le.refl _) fun _ => Le.bind (octet_Num.le ..) fun _ => Le.bind (Le.refl _) fun _ => h1 .., fun _ _ _ _ _ => Le.cond (Le.bind (Le.refl _) fun _ => Le.bind (octet_Text.le ..) fun _ => Le.bind (Le.refl _) fun _ => Le.bind (Le.refl _) fun _ => Le.bind (value_Bytes.le ..) fun _ => Le.bind (octet_Text.le ..) fun _ => Le.bind (Le.refl _) fun _ => h1 ..) (Le.refl _)⟩
set_option maxRecDepth 100000 in
theorem chartularylaw05_bytes.le (k : Nat) : ∀ a0, Le (chartularylaw05_bytes.f k a0) (chartularylaw05_bytes.f (k + 1) a0) := (chartularylaw05_bytes.les k).1

set_option maxRecDepth 100000 in
theorem chartularylaw05_PaperBytes.les (k : Nat) : (∀ a0, Le (chartularylaw05_PaperBytes.f k a0) (chartularylaw05_PaperBytes.f (k + 1) a0)) := by
  induction k with
  | zero => exact fun _ => Le.none _
  | succ k ih =>
    have h0 := ih
    exact fun _ => Le.bind (chartularylaw05_Few.le ..) fun _ => Le.bind (paper_Bytes.le ..) fun _ => Le.bind (chartularylaw05_check.le ..) fun _ => Le.cond (Le.cond (Le.bind (chartularylaw05_check.le ..) fun _ => Le.cond (Le.bind (chartularylaw05_awake.le ..) fun _ => Le.refl _) (Le.refl _)) (Le.refl _)) (Le.bind (paper_Read.le ..) fun _ => Le.cond (Le.bind (chartularylaw05_tidy.le ..) fun _ => Le.bind (chartularylaw05_bytes.le ..) fun _ => Le.cond (Le.cond (Le.bind (chartularylaw05_tidy.le ..) fun _ => Le.bind (chartularylaw05_same.le ..) fun _ => Le.cond (Le.bind (chartularylaw05_awake.le ..) fun _ => Le.refl _) (Le.refl _)) (Le.refl _)) (Le.refl _)) (Le.refl _))
set_option maxRecDepth 100000 in
theorem chartularylaw05_PaperBytes.le (k : Nat) : ∀ a0, Le (chartularylaw05_PaperBytes.f k a0) (chartularylaw05_PaperBytes.f (k + 1) a0) := chartularylaw05_PaperBytes.les k

set_option maxRecDepth 100000 in
theorem chartularylaw05_PaperReads.les (k : Nat) : (∀ a0, Le (chartularylaw05_PaperReads.f k a0) (chartularylaw05_PaperReads.f (k + 1) a0)) ∧ (∀ a0, Le (chartularylaw05_PaperReads.j0 k a0) (chartularylaw05_PaperReads.j0 (k + 1) a0)) := by
  induction k with
  | zero => exact ⟨fun _ => Le.none _, fun _ => Le.none _⟩
  | succ k ih =>
    obtain ⟨h0, h1⟩ := ih
    exact ⟨fun _ => Le.cond (Le.bind (Le.refl _) fun _ => h1 ..) (h1 ..), fun _ => Le.bind (paper_Read.le ..) fun _ => Le.cond (Le.bind (chartularylaw05_same.le ..) fun _ => Le.cond (Le.bind (chartularylaw05_awake.le ..) fun _ => Le.refl _) (Le.refl _)) (Le.bind (chartularylaw05_check.le ..) fun _ => Le.cond (Le.bind (chartularylaw05_tidy.le ..) fun _ => Le.bind (chartularylaw05_same.le ..) fun _ => Le.cond (Le.bind (chartularylaw05_bytes.le ..) fun _ => Le.cond (Le.bind (chartularylaw05_awake.le ..) fun _ => Le.refl _) (Le.refl _)) (Le.refl _)) (Le.refl _))⟩
set_option maxRecDepth 100000 in
theorem chartularylaw05_PaperReads.le (k : Nat) : ∀ a0, Le (chartularylaw05_PaperReads.f k a0) (chartularylaw05_PaperReads.f (k + 1) a0) := (chartularylaw05_PaperReads.les k).1

end Go.Proofs.Ytabdmnoejoiboaa.E
