/- Laid by gen.py: with more rounds the functions come to the same. -/
import Derived.Test.YtpidgdelfaidoaaEDefs
namespace Go.Proofs.Ytpidgdelfaidoaa.E
open Go Go.Proofs.Ytpidgdelfaidoaa.Eng
set_option linter.unusedVariables false
/-- What the one comes to, the other comes to. -/
structure Le {α : Type} (x y : Option α) : Prop where
  le : ∀ v, x = some v → y = some v
theorem Le.refl {α : Type} (x : Option α) : Le x x := ⟨fun _ h => h⟩
theorem Le.eqv {α : Type} {x y : Option α} (h : x = y) : Le x y := h ▸ Le.refl x
theorem Le.none {α : Type} (y : Option α) : Le none y := ⟨fun _ h => by cases h⟩
theorem Le.bind {α β : Type} {x y : Option α} {g h : α → Option β} (h1 : Le x y) (h2 : ∀ v, Le (g v) (h v)) : Le (x.bind g) (y.bind h) := ⟨fun v hv => by
  cases hx : x with
  | none => rw [hx] at hv; cases hv
  | some w => rw [hx] at hv; rw [h1.le w hx]; exact (h2 w).le v hv⟩
theorem Le.both {α : Type} {x y x' y' : Option α} (h1 : Le x x') (h2 : Le y y') : Le (bothE x y) (bothE x' y') := ⟨fun v hv => by
  obtain ⟨e1, e2⟩ := bothE_some hv
  rw [h1.le v e1, h2.le v e2]; exact bothE_same _⟩
theorem Le.cond {α : Type} {b : Bool} {x y x' y' : Option α} (h1 : Le x x') (h2 : Le y y') : Le (bif b then x else y) (bif b then x' else y') := by cases b; exact h2; exact h1
set_option maxRecDepth 100000 in
theorem chartularylaw26_cut.les (k : Nat) : (∀ a0, Le (chartularylaw26_cut.f k a0) (chartularylaw26_cut.f (k + 1) a0)) := by
  induction k with
  | zero => exact fun _ => Le.none _
  | succ k ih =>
    have h0 := ih
    exact fun _ => Le.refl _
set_option maxRecDepth 100000 in
theorem chartularylaw26_cut.le (k : Nat) : ∀ a0, Le (chartularylaw26_cut.f k a0) (chartularylaw26_cut.f (k + 1) a0) := chartularylaw26_cut.les k

set_option maxRecDepth 100000 in
theorem chartularylaw26_few.les (k : Nat) : (∀ a0, Le (chartularylaw26_few.f k a0) (chartularylaw26_few.f (k + 1) a0)) ∧ (∀ a0 a1 a2 a3 a4 a5 a6 a7 a8 a9 a10 a11 a12, Le (chartularylaw26_few.l0 k a0 a1 a2 a3 a4 a5 a6 a7 a8 a9 a10 a11 a12) (chartularylaw26_few.l0 (k + 1) a0 a1 a2 a3 a4 a5 a6 a7 a8 a9 a10 a11 a12)) := by
  induction k with
  | zero => exact ⟨fun _ => Le.none _, fun _ _ _ _ _ _ _ _ _ _ _ _ _ => Le.none _⟩
  | succ k ih =>
    obtain ⟨h0, h1⟩ := ih
    exact ⟨fun _ => Le.bind (chartularylaw26_cut.le ..) fun _ => h1 .., fun _ _ _ _ _ _ _ _ _ _ _ _ _ => Le.cond (Le.cond (Le.bind (Le.refl _) fun _ => Le.bind (chartularylaw26_cut.le ..) fun _ => Le.bind (chartularylaw26_cut.le ..) fun _ => Le.bind (chartularylaw26_cut.le ..) fun _ => Le.bind (Le.refl _) fun _ => h1 ..) (Le.refl _)) (Le.refl _)⟩
set_option maxRecDepth 100000 in
theorem chartularylaw26_few.le (k : Nat) : ∀ a0, Le (chartularylaw26_few.f k a0) (chartularylaw26_few.f (k + 1) a0) := (chartularylaw26_few.les k).1

set_option maxRecDepth 100000 in
theorem paper_sign.les (k : Nat) : (∀ a0, Le (paper_sign.f k a0) (paper_sign.f (k + 1) a0)) := by
  induction k with
  | zero => exact fun _ => Le.none _
  | succ k ih =>
    have h0 := ih
    exact fun _ => Le.refl _
set_option maxRecDepth 100000 in
theorem paper_sign.le (k : Nat) : ∀ a0, Le (paper_sign.f k a0) (paper_sign.f (k + 1) a0) := paper_sign.les k

set_option maxRecDepth 100000 in
theorem paper_word.les (k : Nat) : (∀ a0 a1, Le (paper_word.f k a0 a1) (paper_word.f (k + 1) a0 a1)) ∧ (∀ a0, Le (paper_word.j0 k a0) (paper_word.j0 (k + 1) a0)) ∧ (∀ a0 a1 a2, Le (paper_word.l0 k a0 a1 a2) (paper_word.l0 (k + 1) a0 a1 a2)) := by
  induction k with
  | zero => exact ⟨fun _ _ => Le.none _, fun _ => Le.none _, fun _ _ _ => Le.none _⟩
  | succ k ih =>
    obtain ⟨h0, h1, h2⟩ := ih
    exact ⟨fun _ _ => Le.cond (Le.refl _) (Le.cond (Le.refl _) (h1 ..)), fun _ => h2 .., fun _ _ _ => Le.cond (Le.bind (Le.refl _) fun _ => Le.bind (paper_sign.le ..) fun _ => Le.cond (Le.refl _) (h2 ..)) (Le.refl _)⟩
set_option maxRecDepth 100000 in
theorem paper_word.le (k : Nat) : ∀ a0 a1, Le (paper_word.f k a0 a1) (paper_word.f (k + 1) a0 a1) := (paper_word.les k).1

set_option maxRecDepth 100000 in
theorem paper_IsName.les (k : Nat) : (∀ a0, Le (paper_IsName.f k a0) (paper_IsName.f (k + 1) a0)) := by
  induction k with
  | zero => exact fun _ => Le.none _
  | succ k ih =>
    have h0 := ih
    exact fun _ => Le.bind (paper_word.le ..) fun _ => Le.refl _
set_option maxRecDepth 100000 in
theorem paper_IsName.le (k : Nat) : ∀ a0, Le (paper_IsName.f k a0) (paper_IsName.f (k + 1) a0) := paper_IsName.les k

set_option maxRecDepth 100000 in
theorem value_nan.les (k : Nat) : (∀ a0, Le (value_nan.f k a0) (value_nan.f (k + 1) a0)) := by
  induction k with
  | zero => exact fun _ => Le.none _
  | succ k ih =>
    have h0 := ih
    exact fun _ => Le.refl _
set_option maxRecDepth 100000 in
theorem value_nan.le (k : Nat) : ∀ a0, Le (value_nan.f k a0) (value_nan.f (k + 1) a0) := value_nan.les k

set_option maxRecDepth 100000 in
theorem value_Clean.les (k : Nat) : (∀ a0, Le (value_Clean.f k a0) (value_Clean.f (k + 1) a0)) := by
  induction k with
  | zero => exact fun _ => Le.none _
  | succ k ih =>
    have h0 := ih
    exact fun _ => Le.cond (Le.refl _) (Le.cond (Le.refl _) (Le.cond (Le.bind (value_nan.le ..) fun _ => Le.cond (Le.refl _) (Le.refl _)) (Le.cond (Le.refl _) (Le.refl _))))
set_option maxRecDepth 100000 in
theorem value_Clean.le (k : Nat) : ∀ a0, Le (value_Clean.f k a0) (value_Clean.f (k + 1) a0) := value_Clean.les k

set_option maxRecDepth 100000 in
theorem value_Right.les (k : Nat) : (∀ a0, Le (value_Right.f k a0) (value_Right.f (k + 1) a0)) := by
  induction k with
  | zero => exact fun _ => Le.none _
  | succ k ih =>
    have h0 := ih
    exact fun _ => Le.cond (Le.cond (Le.cond (Le.bind (value_Clean.le ..) fun _ => Le.refl _) (Le.refl _)) (Le.refl _)) (Le.refl _)
set_option maxRecDepth 100000 in
theorem value_Right.le (k : Nat) : ∀ a0, Le (value_Right.f k a0) (value_Right.f (k + 1) a0) := value_Right.les k

set_option maxRecDepth 100000 in
theorem find_Check.les (k : Nat) : (∀ a0, Le (find_Check.f k a0) (find_Check.f (k + 1) a0)) ∧ (∀ a0 a1 a2 a3, Le (find_Check.j0 k a0 a1 a2 a3) (find_Check.j0 (k + 1) a0 a1 a2 a3)) ∧ (∀ a0 a1 a2, Le (find_Check.l0 k a0 a1 a2) (find_Check.l0 (k + 1) a0 a1 a2)) := by
  induction k with
  | zero => exact ⟨fun _ => Le.none _, fun _ _ _ _ => Le.none _, fun _ _ _ => Le.none _⟩
  | succ k ih =>
    obtain ⟨h0, h1, h2⟩ := ih
    exact ⟨fun _ => Le.cond (Le.refl _) (Le.cond (Le.refl _) (Le.cond (Le.bind (paper_IsName.le ..) fun _ => Le.cond (Le.refl _) (h1 ..)) (h1 ..))), fun _ _ _ _ => h2 .., fun _ _ _ => Le.cond (Le.bind (Le.refl _) fun _ => Le.bind (paper_IsName.le ..) fun _ => Le.cond (Le.refl _) (Le.cond (Le.bind (value_Right.le ..) fun _ => Le.cond (Le.refl _) (Le.cond (Le.bind (value_Right.le ..) fun _ => Le.cond (Le.refl _) (h2 ..)) (h2 ..))) (Le.cond (Le.bind (value_Right.le ..) fun _ => Le.cond (Le.refl _) (h2 ..)) (h2 ..)))) (Le.refl _)⟩
set_option maxRecDepth 100000 in
theorem find_Check.le (k : Nat) : ∀ a0, Le (find_Check.f k a0) (find_Check.f (k + 1) a0) := (find_Check.les k).1

set_option maxRecDepth 100000 in
theorem strings_Builder_WriteByte_v0.les (k : Nat) : (∀ a0, Le (strings_Builder_WriteByte_v0.f k a0) (strings_Builder_WriteByte_v0.f (k + 1) a0)) := by
  induction k with
  | zero => exact fun _ => Le.none _
  | succ k ih =>
    have h0 := ih
    exact fun _ => Le.refl _
set_option maxRecDepth 100000 in
theorem strings_Builder_WriteByte_v0.le (k : Nat) : ∀ a0, Le (strings_Builder_WriteByte_v0.f k a0) (strings_Builder_WriteByte_v0.f (k + 1) a0) := strings_Builder_WriteByte_v0.les k

set_option maxRecDepth 100000 in
theorem strings_Builder_WriteByte_v1.les (k : Nat) : (∀ a0 a1, Le (strings_Builder_WriteByte_v1.f k a0 a1) (strings_Builder_WriteByte_v1.f (k + 1) a0 a1)) := by
  induction k with
  | zero => exact fun _ _ => Le.none _
  | succ k ih =>
    have h0 := ih
    exact fun _ _ => Le.refl _
set_option maxRecDepth 100000 in
theorem strings_Builder_WriteByte_v1.le (k : Nat) : ∀ a0 a1, Le (strings_Builder_WriteByte_v1.f k a0 a1) (strings_Builder_WriteByte_v1.f (k + 1) a0 a1) := strings_Builder_WriteByte_v1.les k

set_option maxRecDepth 100000 in
theorem say_plain.les (k : Nat) : (∀ a0, Le (say_plain.f k a0) (say_plain.f (k + 1) a0)) := by
  induction k with
  | zero => exact fun _ => Le.none _
  | succ k ih =>
    have h0 := ih
    exact fun _ => Le.refl _
set_option maxRecDepth 100000 in
theorem say_plain.le (k : Nat) : ∀ a0, Le (say_plain.f k a0) (say_plain.f (k + 1) a0) := say_plain.les k

set_option maxRecDepth 100000 in
theorem strings_Builder_WriteString_v0.les (k : Nat) : (∀ a0 a1, Le (strings_Builder_WriteString_v0.f k a0 a1) (strings_Builder_WriteString_v0.f (k + 1) a0 a1)) := by
  induction k with
  | zero => exact fun _ _ => Le.none _
  | succ k ih =>
    have h0 := ih
    exact fun _ _ => Le.refl _
set_option maxRecDepth 100000 in
theorem strings_Builder_WriteString_v0.le (k : Nat) : ∀ a0 a1, Le (strings_Builder_WriteString_v0.f k a0 a1) (strings_Builder_WriteString_v0.f (k + 1) a0 a1) := strings_Builder_WriteString_v0.les k

set_option maxRecDepth 100000 in
theorem say_Quoted.les (k : Nat) : (∀ a0, Le (say_Quoted.f k a0) (say_Quoted.f (k + 1) a0)) ∧ (∀ a0 a1 a2 a3, Le (say_Quoted.l0 k a0 a1 a2 a3) (say_Quoted.l0 (k + 1) a0 a1 a2 a3)) := by
  induction k with
  | zero => exact ⟨fun _ => Le.none _, fun _ _ _ _ => Le.none _⟩
  | succ k ih =>
    obtain ⟨h0, h1⟩ := ih
    exact ⟨fun _ => Le.bind (strings_Builder_WriteByte_v0.le ..) fun _ => h1 .., fun _ _ _ _ => Le.cond (Le.bind (Le.refl _) fun _ => Le.bind (say_plain.le ..) fun _ => Le.cond (Le.bind (strings_Builder_WriteByte_v1.le ..) fun _ => h1 ..) (Le.bind (strings_Builder_WriteString_v0.le ..) fun _ => (by first | exact Le.bind (Le.refl _) (fun _ => Le.bind (Le.refl _) fun _ => Le.bind (strings_Builder_WriteByte_v1.le ..) fun _ => Le.bind (Le.refl _) fun _ => Le.bind (strings_Builder_WriteByte_v1.le ..) fun _ => h1 ..) | exact Le.bind (Le.refl _) fun _ => Le.bind (strings_Builder_WriteByte_v1.le ..) fun _ => Le.bind (Le.refl _) fun _ => Le.bind (strings_Builder_WriteByte_v1.le ..) fun _ => h1 ..))) (Le.bind (strings_Builder_WriteByte_v1.le ..) fun _ => Le.bind (Le.eqv (by rfl)) fun _ => Le.refl _)⟩
set_option maxRecDepth 100000 in
theorem say_Quoted.le (k : Nat) : ∀ a0, Le (say_Quoted.f k a0) (say_Quoted.f (k + 1) a0) := (say_Quoted.les k).1

set_option maxRecDepth 100000 in
theorem say_count.les (k : Nat) : (∀ a0, Le (say_count.f k a0) (say_count.f (k + 1) a0)) ∧ (∀ a0 a1, Le (say_count.l0 k a0 a1) (say_count.l0 (k + 1) a0 a1)) ∧ (∀ a0 a1 a2, Le (say_count.l1 k a0 a1 a2) (say_count.l1 (k + 1) a0 a1 a2)) := by
  induction k with
  | zero => exact ⟨fun _ => Le.none _, fun _ _ => Le.none _, fun _ _ _ => Le.none _⟩
  | succ k ih =>
    obtain ⟨h0, h1, h2⟩ := ih
    exact ⟨fun _ => h1 .., fun _ _ => Le.cond ((by first | exact Le.bind (Le.refl _) (fun _ => Le.bind (Le.refl _) fun _ => (by first | exact Le.bind (Le.refl _) (fun _ => h1 ..) | exact h1 ..)) | exact Le.bind (Le.refl _) fun _ => (by first | exact Le.bind (Le.refl _) (fun _ => h1 ..) | exact h1 ..))) (Le.bind (Le.refl _) fun _ => h2 ..), fun _ _ _ => Le.cond (Le.bind (Le.refl _) fun _ => Le.bind (Le.refl _) fun _ => Le.bind (Le.refl _) fun _ => Le.bind (Le.refl _) fun _ => Le.bind (Le.refl _) fun _ => Le.bind (Le.refl _) fun _ => h2 ..) (Le.refl _)⟩
set_option maxRecDepth 100000 in
theorem say_count.le (k : Nat) : ∀ a0, Le (say_count.f k a0) (say_count.f (k + 1) a0) := (say_count.les k).1

set_option maxRecDepth 100000 in
theorem say_whole.les (k : Nat) : (∀ a0, Le (say_whole.f k a0) (say_whole.f (k + 1) a0)) := by
  induction k with
  | zero => exact fun _ => Le.none _
  | succ k ih =>
    have h0 := ih
    exact fun _ => Le.cond (Le.bind (say_count.le ..) fun _ => Le.bind (Le.refl _) fun _ => Le.refl _) (Le.bind (say_count.le ..) fun _ => Le.refl _)
set_option maxRecDepth 100000 in
theorem say_whole.le (k : Nat) : ∀ a0, Le (say_whole.f k a0) (say_whole.f (k + 1) a0) := say_whole.les k

set_option maxRecDepth 100000 in
theorem say_Value.les (k : Nat) : (∀ a0, Le (say_Value.f k a0) (say_Value.f (k + 1) a0)) ∧ (∀ a0 a1 a2 a3 a4 a5 a6, Le (say_Value.l0 k a0 a1 a2 a3 a4 a5 a6) (say_Value.l0 (k + 1) a0 a1 a2 a3 a4 a5 a6)) := by
  induction k with
  | zero => exact ⟨fun _ => Le.none _, fun _ _ _ _ _ _ _ => Le.none _⟩
  | succ k ih =>
    obtain ⟨h0, h1⟩ := ih
    exact ⟨fun _ => Le.cond (Le.refl _) (Le.cond (Le.cond (Le.refl _) (Le.refl _)) (Le.cond (Le.bind (say_whole.le ..) fun _ => Le.refl _) (Le.cond (h1 ..) (Le.cond (Le.bind (say_Quoted.le ..) fun _ => Le.refl _) (Le.refl _))))), fun _ _ _ _ _ _ _ => Le.cond (Le.bind (Le.refl _) fun _ => Le.bind (Le.refl _) fun _ => Le.bind (Le.refl _) fun _ => h1 ..) (Le.bind (say_Quoted.le ..) fun _ => Le.bind (Le.refl _) fun _ => Le.bind (Le.refl _) fun _ => Le.refl _)⟩
set_option maxRecDepth 100000 in
theorem say_Value.le (k : Nat) : ∀ a0, Le (say_Value.f k a0) (say_Value.f (k + 1) a0) := (say_Value.les k).1

set_option maxRecDepth 100000 in
theorem ask_term.les (k : Nat) : (∀ a0, Le (ask_term.f k a0) (ask_term.f (k + 1) a0)) ∧ (∀ a0 a1 a2 a3 a4 a5 a6, Le (ask_term.j0 k a0 a1 a2 a3 a4 a5 a6) (ask_term.j0 (k + 1) a0 a1 a2 a3 a4 a5 a6)) ∧ (∀ a0 a1 a2 a3 a4 a5 a6, Le (ask_term.j1 k a0 a1 a2 a3 a4 a5 a6) (ask_term.j1 (k + 1) a0 a1 a2 a3 a4 a5 a6)) := by
  induction k with
  | zero => exact ⟨fun _ => Le.none _, fun _ _ _ _ _ _ _ => Le.none _, fun _ _ _ _ _ _ _ => Le.none _⟩
  | succ k ih =>
    obtain ⟨h0, h1, h2⟩ := ih
    exact ⟨fun _ => Le.bind (say_Quoted.le ..) fun _ => Le.cond (Le.bind (Le.refl _) fun _ => h1 ..) (h1 ..), fun _ _ _ _ _ _ _ => Le.cond (Le.cond (Le.cond (Le.bind (Le.refl _) fun _ => Le.bind (say_Value.le ..) fun _ => Le.bind (Le.refl _) fun _ => Le.refl _) (Le.cond (Le.cond (Le.bind (Le.refl _) fun _ => Le.refl _) (Le.cond (Le.bind (say_Value.le ..) fun _ => Le.bind (Le.refl _) fun _ => Le.bind (Le.refl _) fun _ => h2 ..) (h2 ..))) (Le.cond (Le.bind (say_Value.le ..) fun _ => Le.bind (Le.refl _) fun _ => Le.bind (Le.refl _) fun _ => h2 ..) (h2 ..)))) (Le.cond (Le.cond (Le.bind (Le.refl _) fun _ => Le.refl _) (Le.cond (Le.bind (say_Value.le ..) fun _ => Le.bind (Le.refl _) fun _ => Le.bind (Le.refl _) fun _ => h2 ..) (h2 ..))) (Le.cond (Le.bind (say_Value.le ..) fun _ => Le.bind (Le.refl _) fun _ => Le.bind (Le.refl _) fun _ => h2 ..) (h2 ..)))) (Le.cond (Le.cond (Le.bind (Le.refl _) fun _ => Le.refl _) (Le.cond (Le.bind (say_Value.le ..) fun _ => Le.bind (Le.refl _) fun _ => Le.bind (Le.refl _) fun _ => h2 ..) (h2 ..))) (Le.cond (Le.bind (say_Value.le ..) fun _ => Le.bind (Le.refl _) fun _ => Le.bind (Le.refl _) fun _ => h2 ..) (h2 ..))), fun _ _ _ _ _ _ _ => Le.cond (Le.bind (say_Value.le ..) fun _ => Le.bind (Le.refl _) fun _ => Le.bind (Le.refl _) fun _ => Le.refl _) (Le.refl _)⟩
set_option maxRecDepth 100000 in
theorem ask_term.le (k : Nat) : ∀ a0, Le (ask_term.f k a0) (ask_term.f (k + 1) a0) := (ask_term.les k).1

set_option maxRecDepth 100000 in
theorem strings_Join.les (k : Nat) : (∀ a0 a1, Le (strings_Join.f k a0 a1) (strings_Join.f (k + 1) a0 a1)) ∧ (∀ a0 a1 a2, Le (strings_Join.j0 k a0 a1 a2) (strings_Join.j0 (k + 1) a0 a1 a2)) ∧ (∀ a0 a1 a2, Le (strings_Join.j1 k a0 a1 a2) (strings_Join.j1 (k + 1) a0 a1 a2)) ∧ (∀ a0 a1 a2 a3 a4 a5, Le (strings_Join.l0 k a0 a1 a2 a3 a4 a5) (strings_Join.l0 (k + 1) a0 a1 a2 a3 a4 a5)) ∧ (∀ a0 a1 a2 a3 a4, Le (strings_Join.l1 k a0 a1 a2 a3 a4) (strings_Join.l1 (k + 1) a0 a1 a2 a3 a4)) := by
  induction k with
  | zero => exact ⟨fun _ _ => Le.none _, fun _ _ _ => Le.none _, fun _ _ _ => Le.none _, fun _ _ _ _ _ _ => Le.none _, fun _ _ _ _ _ => Le.none _⟩
  | succ k ih =>
    obtain ⟨h0, h1, h2, h3, h4⟩ := ih
    exact ⟨fun _ _ => Le.cond (Le.refl _) (Le.cond (Le.bind (Le.refl _) fun _ => Le.refl _) (Le.cond (Le.bind (Le.refl _) fun _ => Le.cond (Le.refl _) (h1 ..)) (h2 ..))), fun _ _ _ => h2 .., fun _ _ _ => h3 .., fun _ _ _ _ _ _ => Le.cond (Le.bind (Le.refl _) fun _ => Le.cond (Le.refl _) (h3 ..)) (Le.bind (Le.eqv (by rfl)) fun _ => Le.bind (Le.refl _) fun _ => Le.bind (strings_Builder_WriteString_v0.le ..) fun _ => Le.bind (Le.refl _) fun _ => h4 ..), fun _ _ _ _ _ => Le.cond (Le.bind (Le.refl _) fun _ => Le.bind (strings_Builder_WriteString_v0.le ..) fun _ => Le.bind (strings_Builder_WriteString_v0.le ..) fun _ => h4 ..) (Le.bind (Le.eqv (by rfl)) fun _ => Le.refl _)⟩
set_option maxRecDepth 100000 in
theorem strings_Join.le (k : Nat) : ∀ a0 a1, Le (strings_Join.f k a0 a1) (strings_Join.f (k + 1) a0 a1) := (strings_Join.les k).1

set_option maxRecDepth 100000 in
theorem ask_Print.les (k : Nat) : (∀ a0, Le (ask_Print.f k a0) (ask_Print.f (k + 1) a0)) ∧ (∀ a0 a1 a2 a3 a4 a5 a6 a7, Le (ask_Print.l0 k a0 a1 a2 a3 a4 a5 a6 a7) (ask_Print.l0 (k + 1) a0 a1 a2 a3 a4 a5 a6 a7)) ∧ (∀ a0 a1 a2 a3 a4, Le (ask_Print.j0 k a0 a1 a2 a3 a4) (ask_Print.j0 (k + 1) a0 a1 a2 a3 a4)) := by
  induction k with
  | zero => exact ⟨fun _ => Le.none _, fun _ _ _ _ _ _ _ _ => Le.none _, fun _ _ _ _ _ => Le.none _⟩
  | succ k ih =>
    obtain ⟨h0, h1, h2⟩ := ih
    exact ⟨fun _ => Le.bind (find_Check.le ..) fun _ => Le.cond (Le.refl _) (h1 ..), fun _ _ _ _ _ _ _ _ => Le.cond (Le.bind (Le.refl _) fun _ => Le.cond (Le.bind (Le.refl _) fun _ => Le.bind (ask_term.le ..) fun _ => Le.bind (Le.refl _) fun _ => h1 ..) (Le.bind (Le.refl _) fun _ => Le.bind (ask_term.le ..) fun _ => Le.bind (Le.refl _) fun _ => h1 ..)) (Le.cond (Le.bind (say_Quoted.le ..) fun _ => Le.bind (Le.refl _) fun _ => Le.cond (Le.bind (Le.refl _) fun _ => h2 ..) (h2 ..)) (h2 ..)), fun _ _ _ _ _ => Le.bind (say_Value.le ..) fun _ => Le.bind (Le.refl _) fun _ => Le.bind (strings_Join.le ..) fun _ => Le.refl _⟩
set_option maxRecDepth 100000 in
theorem ask_Print.le (k : Nat) : ∀ a0, Le (ask_Print.f k a0) (ask_Print.f (k + 1) a0) := (ask_Print.les k).1

set_option maxRecDepth 100000 in
theorem say_lexer_blanks_1.les (k : Nat) : (∀ a0, Le (say_lexer_blanks_1.f k a0) (say_lexer_blanks_1.f (k + 1) a0)) := by
  induction k with
  | zero => exact fun _ => Le.none _
  | succ k ih =>
    have h0 := ih
    exact fun _ => Le.refl _
set_option maxRecDepth 100000 in
theorem say_lexer_blanks_1.le (k : Nat) : ∀ a0, Le (say_lexer_blanks_1.f k a0) (say_lexer_blanks_1.f (k + 1) a0) := say_lexer_blanks_1.les k

set_option maxRecDepth 100000 in
theorem say_lexer_run_v0.les (k : Nat) : (∀ a0 a1, Le (say_lexer_run_v0.f k a0 a1) (say_lexer_run_v0.f (k + 1) a0 a1)) ∧ (∀ a0 a1 a2, Le (say_lexer_run_v0.l0 k a0 a1 a2) (say_lexer_run_v0.l0 (k + 1) a0 a1 a2)) := by
  induction k with
  | zero => exact ⟨fun _ _ => Le.none _, fun _ _ _ => Le.none _⟩
  | succ k ih =>
    obtain ⟨h0, h1⟩ := ih
    exact ⟨fun _ _ => h1 .., fun _ _ _ => Le.cond (Le.bind (Le.refl _) fun _ => Le.bind (say_lexer_blanks_1.le ..) fun _ => Le.cond (h1 ..) (Le.bind (Le.refl _) fun _ => Le.refl _)) (Le.bind (Le.refl _) fun _ => Le.refl _)⟩
set_option maxRecDepth 100000 in
theorem say_lexer_run_v0.le (k : Nat) : ∀ a0 a1, Le (say_lexer_run_v0.f k a0 a1) (say_lexer_run_v0.f (k + 1) a0 a1) := (say_lexer_run_v0.les k).1

set_option maxRecDepth 100000 in
theorem say_lexer_blanks.les (k : Nat) : (∀ a0 a1, Le (say_lexer_blanks.f k a0 a1) (say_lexer_blanks.f (k + 1) a0 a1)) ∧ (∀ a0 a1, Le (say_lexer_blanks.l0 k a0 a1) (say_lexer_blanks.l0 (k + 1) a0 a1)) := by
  induction k with
  | zero => exact ⟨fun _ _ => Le.none _, fun _ _ => Le.none _⟩
  | succ k ih =>
    obtain ⟨h0, h1⟩ := ih
    exact ⟨fun _ _ => h1 .., fun _ _ => Le.cond (Le.bind (Le.refl _) fun _ => Le.cond (h1 ..) (Le.cond (h1 ..) (Le.cond (h1 ..) (Le.cond (Le.bind (say_lexer_run_v0.le ..) fun _ => h1 ..) (Le.refl _))))) (Le.refl _)⟩
set_option maxRecDepth 100000 in
theorem say_lexer_blanks.le (k : Nat) : ∀ a0 a1, Le (say_lexer_blanks.f k a0 a1) (say_lexer_blanks.f (k + 1) a0 a1) := (say_lexer_blanks.les k).1

set_option maxRecDepth 100000 in
theorem say_letter.les (k : Nat) : (∀ a0, Le (say_letter.f k a0) (say_letter.f (k + 1) a0)) := by
  induction k with
  | zero => exact fun _ => Le.none _
  | succ k ih =>
    have h0 := ih
    exact fun _ => Le.refl _
set_option maxRecDepth 100000 in
theorem say_letter.le (k : Nat) : ∀ a0, Le (say_letter.f k a0) (say_letter.f (k + 1) a0) := say_letter.les k

set_option maxRecDepth 100000 in
theorem say_digit.les (k : Nat) : (∀ a0, Le (say_digit.f k a0) (say_digit.f (k + 1) a0)) := by
  induction k with
  | zero => exact fun _ => Le.none _
  | succ k ih =>
    have h0 := ih
    exact fun _ => Le.refl _
set_option maxRecDepth 100000 in
theorem say_digit.le (k : Nat) : ∀ a0, Le (say_digit.f k a0) (say_digit.f (k + 1) a0) := say_digit.les k

set_option maxRecDepth 100000 in
theorem say_lexer_next_1.les (k : Nat) : (∀ a0, Le (say_lexer_next_1.f k a0) (say_lexer_next_1.f (k + 1) a0)) := by
  induction k with
  | zero => exact fun _ => Le.none _
  | succ k ih =>
    have h0 := ih
    exact fun _ => Le.bind (say_letter.le ..) fun _ => Le.cond (Le.refl _) (Le.bind (say_digit.le ..) fun _ => Le.refl _)
set_option maxRecDepth 100000 in
theorem say_lexer_next_1.le (k : Nat) : ∀ a0, Le (say_lexer_next_1.f k a0) (say_lexer_next_1.f (k + 1) a0) := say_lexer_next_1.les k

set_option maxRecDepth 100000 in
theorem say_lexer_run_v1.les (k : Nat) : (∀ a0 a1, Le (say_lexer_run_v1.f k a0 a1) (say_lexer_run_v1.f (k + 1) a0 a1)) ∧ (∀ a0 a1 a2, Le (say_lexer_run_v1.l0 k a0 a1 a2) (say_lexer_run_v1.l0 (k + 1) a0 a1 a2)) := by
  induction k with
  | zero => exact ⟨fun _ _ => Le.none _, fun _ _ _ => Le.none _⟩
  | succ k ih =>
    obtain ⟨h0, h1⟩ := ih
    exact ⟨fun _ _ => h1 .., fun _ _ _ => Le.cond (Le.bind (Le.refl _) fun _ => Le.bind (say_lexer_next_1.le ..) fun _ => Le.cond (h1 ..) (Le.bind (Le.refl _) fun _ => Le.refl _)) (Le.bind (Le.refl _) fun _ => Le.refl _)⟩
set_option maxRecDepth 100000 in
theorem say_lexer_run_v1.le (k : Nat) : ∀ a0 a1, Le (say_lexer_run_v1.f k a0 a1) (say_lexer_run_v1.f (k + 1) a0 a1) := (say_lexer_run_v1.les k).1

set_option maxRecDepth 100000 in
theorem say_lexer_run_v2.les (k : Nat) : (∀ a0 a1, Le (say_lexer_run_v2.f k a0 a1) (say_lexer_run_v2.f (k + 1) a0 a1)) ∧ (∀ a0 a1 a2, Le (say_lexer_run_v2.l0 k a0 a1 a2) (say_lexer_run_v2.l0 (k + 1) a0 a1 a2)) := by
  induction k with
  | zero => exact ⟨fun _ _ => Le.none _, fun _ _ _ => Le.none _⟩
  | succ k ih =>
    obtain ⟨h0, h1⟩ := ih
    exact ⟨fun _ _ => h1 .., fun _ _ _ => Le.cond (Le.bind (Le.refl _) fun _ => Le.bind (say_digit.le ..) fun _ => Le.cond (h1 ..) (Le.bind (Le.refl _) fun _ => Le.refl _)) (Le.bind (Le.refl _) fun _ => Le.refl _)⟩
set_option maxRecDepth 100000 in
theorem say_lexer_run_v2.le (k : Nat) : ∀ a0 a1, Le (say_lexer_run_v2.f k a0 a1) (say_lexer_run_v2.f (k + 1) a0 a1) := (say_lexer_run_v2.les k).1

set_option maxRecDepth 100000 in
theorem stringslite_IndexByte.les (k : Nat) : (∀ a0 a1, Le (stringslite_IndexByte.f k a0 a1) (stringslite_IndexByte.f (k + 1) a0 a1)) := by
  induction k with
  | zero => exact fun _ _ => Le.none _
  | succ k ih =>
    have h0 := ih
    exact fun _ _ => Le.refl _
set_option maxRecDepth 100000 in
theorem stringslite_IndexByte.le (k : Nat) : ∀ a0 a1, Le (stringslite_IndexByte.f k a0 a1) (stringslite_IndexByte.f (k + 1) a0 a1) := stringslite_IndexByte.les k

set_option maxRecDepth 100000 in
theorem strings_IndexByte.les (k : Nat) : (∀ a0 a1, Le (strings_IndexByte.f k a0 a1) (strings_IndexByte.f (k + 1) a0 a1)) := by
  induction k with
  | zero => exact fun _ _ => Le.none _
  | succ k ih =>
    have h0 := ih
    exact fun _ _ => Le.bind (stringslite_IndexByte.le ..) fun _ => Le.refl _
set_option maxRecDepth 100000 in
theorem strings_IndexByte.le (k : Nat) : ∀ a0 a1, Le (strings_IndexByte.f k a0 a1) (strings_IndexByte.f (k + 1) a0 a1) := strings_IndexByte.les k

set_option maxRecDepth 100000 in
theorem say_escape.les (k : Nat) : (∀ a0, Le (say_escape.f k a0) (say_escape.f (k + 1) a0)) := by
  induction k with
  | zero => exact fun _ => Le.none _
  | succ k ih =>
    have h0 := ih
    exact fun _ => Le.cond (Le.refl _) (Le.bind (Le.refl _) fun _ => Le.bind (strings_IndexByte.le ..) fun _ => Le.bind (Le.refl _) fun _ => Le.bind (strings_IndexByte.le ..) fun _ => (by first | exact Le.bind (Le.refl _) (fun _ => Le.cond (Le.refl _) (Le.refl _)) | exact Le.cond (Le.refl _) (Le.refl _)))
set_option maxRecDepth 100000 in
theorem say_escape.le (k : Nat) : ∀ a0, Le (say_escape.f k a0) (say_escape.f (k + 1) a0) := say_escape.les k

set_option maxRecDepth 100000 in
theorem say_lexer_quote.les (k : Nat) : (∀ a0 a1, Le (say_lexer_quote.f k a0 a1) (say_lexer_quote.f (k + 1) a0 a1)) ∧ (∀ a0 a1, Le (say_lexer_quote.l0 k a0 a1) (say_lexer_quote.l0 (k + 1) a0 a1)) ∧ (∀ a0 a1 a2, Le (say_lexer_quote.l1 k a0 a1 a2) (say_lexer_quote.l1 (k + 1) a0 a1 a2)) := by
  induction k with
  | zero => exact ⟨fun _ _ => Le.none _, fun _ _ => Le.none _, fun _ _ _ => Le.none _⟩
  | succ k ih =>
    obtain ⟨h0, h1, h2⟩ := ih
    exact ⟨fun _ _ => h1 .., fun _ _ => Le.cond (Le.bind (Le.refl _) fun _ => Le.cond (Le.bind (Le.eqv (by rfl)) fun _ => Le.refl _) (Le.cond (Le.cond (Le.refl _) (Le.bind (Le.refl _) fun _ => Le.cond (Le.refl _) (Le.bind (Le.refl _) fun _ => Le.bind (x := say_escape.f k _) (y := say_escape.f (k + 1) _) (say_escape.le ..) fun _ => Le.cond (Le.refl _) (Le.bind (x := say_plain.f k _) (y := say_plain.f (k + 1) _) (say_plain.le ..) fun _ => Le.cond (Le.refl _) (Le.bind (x := strings_Builder_WriteByte_v0.f k _) (y := strings_Builder_WriteByte_v0.f (k + 1) _) (strings_Builder_WriteByte_v0.le ..) fun _ => h2 ..))))) (Le.bind (x := say_plain.f k _) (y := say_plain.f (k + 1) _) (say_plain.le ..) fun _ => Le.cond (Le.refl _) (Le.bind (x := strings_Builder_WriteByte_v0.f k _) (y := strings_Builder_WriteByte_v0.f (k + 1) _) (strings_Builder_WriteByte_v0.le ..) fun _ => h2 ..)))) (Le.refl _), fun _ _ _ => Le.cond (Le.bind (Le.refl _) fun _ => Le.cond (Le.bind (Le.eqv (by rfl)) fun _ => Le.refl _) (Le.cond (Le.cond (Le.refl _) (Le.bind (Le.refl _) fun _ => Le.cond (Le.refl _) (Le.bind (Le.refl _) fun _ => Le.bind (x := say_escape.f k _) (y := say_escape.f (k + 1) _) (say_escape.le ..) fun _ => Le.cond (Le.refl _) (Le.bind (x := say_plain.f k _) (y := say_plain.f (k + 1) _) (say_plain.le ..) fun _ => Le.cond (Le.refl _) (Le.bind (x := strings_Builder_WriteByte_v1.f k _ _) (y := strings_Builder_WriteByte_v1.f (k + 1) _ _) (strings_Builder_WriteByte_v1.le ..) fun _ => h2 ..))))) (Le.bind (x := say_plain.f k _) (y := say_plain.f (k + 1) _) (say_plain.le ..) fun _ => Le.cond (Le.refl _) (Le.bind (x := strings_Builder_WriteByte_v1.f k _ _) (y := strings_Builder_WriteByte_v1.f (k + 1) _ _) (strings_Builder_WriteByte_v1.le ..) fun _ => h2 ..)))) (Le.refl _)⟩
set_option maxRecDepth 100000 in
theorem say_lexer_quote.le (k : Nat) : ∀ a0 a1, Le (say_lexer_quote.f k a0 a1) (say_lexer_quote.f (k + 1) a0 a1) := (say_lexer_quote.les k).1

set_option maxRecDepth 100000 in
theorem say_lexer_next.les (k : Nat) : (∀ a0 a1, Le (say_lexer_next.f k a0 a1) (say_lexer_next.f (k + 1) a0 a1)) := by
  induction k with
  | zero => exact fun _ _ => Le.none _
  | succ k ih =>
    have h0 := ih
    exact fun _ _ => Le.bind (say_lexer_blanks.le ..) fun _ => Le.cond (Le.refl _) (Le.bind (Le.refl _) fun _ => Le.bind (say_letter.le ..) fun _ => Le.cond (Le.bind (say_lexer_run_v1.le ..) fun _ => Le.refl _) (Le.bind (say_digit.le ..) fun _ => Le.cond (Le.bind (Le.refl _) fun _ => Le.bind (say_lexer_run_v2.le ..) fun _ => Le.bind (Le.refl _) fun _ => Le.cond (Le.refl _) (Le.refl _)) (Le.cond (Le.bind (Le.refl _) fun _ => Le.bind (say_lexer_run_v2.le ..) fun _ => Le.bind (Le.refl _) fun _ => Le.cond (Le.refl _) (Le.refl _)) (Le.cond (Le.bind (say_lexer_quote.le ..) fun _ => Le.cond (Le.refl _) (Le.refl _)) (Le.bind (strings_IndexByte.le ..) fun _ => Le.cond (Le.bind (Le.refl _) fun _ => Le.refl _) (Le.refl _))))))
set_option maxRecDepth 100000 in
theorem say_lexer_next.le (k : Nat) : ∀ a0 a1, Le (say_lexer_next.f k a0 a1) (say_lexer_next.f (k + 1) a0 a1) := say_lexer_next.les k

set_option maxRecDepth 100000 in
theorem say_Tokens.les (k : Nat) : (∀ a0, Le (say_Tokens.f k a0) (say_Tokens.f (k + 1) a0)) ∧ (∀ a0 a1 a2, Le (say_Tokens.l0 k a0 a1 a2) (say_Tokens.l0 (k + 1) a0 a1 a2)) := by
  induction k with
  | zero => exact ⟨fun _ => Le.none _, fun _ _ _ => Le.none _⟩
  | succ k ih =>
    obtain ⟨h0, h1⟩ := ih
    exact ⟨fun _ => Le.cond (Le.refl _) (h1 ..), fun _ _ _ => Le.bind (say_lexer_next.le ..) fun _ => Le.cond (Le.refl _) (Le.cond (Le.refl _) (Le.bind (Le.refl _) fun _ => h1 ..))⟩
set_option maxRecDepth 100000 in
theorem say_Tokens.le (k : Nat) : ∀ a0, Le (say_Tokens.f k a0) (say_Tokens.f (k + 1) a0) := (say_Tokens.les k).1

set_option maxRecDepth 100000 in
theorem ask_asker_word.les (k : Nat) : (∀ a0 a1 a2 a3 a4, Le (ask_asker_word.f k a0 a1 a2 a3 a4) (ask_asker_word.f (k + 1) a0 a1 a2 a3 a4)) ∧ (∀ a0 a1 a2 a3, Le (ask_asker_word.j0 k a0 a1 a2 a3) (ask_asker_word.j0 (k + 1) a0 a1 a2 a3)) := by
  induction k with
  | zero => exact ⟨fun _ _ _ _ _ => Le.none _, fun _ _ _ _ => Le.none _⟩
  | succ k ih =>
    obtain ⟨h0, h1⟩ := ih
    exact ⟨fun _ _ _ _ _ => Le.cond (Le.refl _) (Le.cond (Le.refl _) (Le.bind (Le.refl _) fun _ => Le.cond (Le.refl _) (Le.bind (Le.refl _) fun _ => Le.cond (Le.refl _) (h1 ..)))), fun _ _ _ _ => Le.refl _⟩
set_option maxRecDepth 100000 in
theorem ask_asker_word.le (k : Nat) : ∀ a0 a1 a2 a3 a4, Le (ask_asker_word.f k a0 a1 a2 a3 a4) (ask_asker_word.f (k + 1) a0 a1 a2 a3 a4) := (ask_asker_word.les k).1

set_option maxRecDepth 100000 in
theorem ask_asker_fail.les (k : Nat) : (∀ a0 a1 a2 a3, Le (ask_asker_fail.f k a0 a1 a2 a3) (ask_asker_fail.f (k + 1) a0 a1 a2 a3)) := by
  induction k with
  | zero => exact fun _ _ _ _ => Le.none _
  | succ k ih =>
    have h0 := ih
    exact fun _ _ _ _ => Le.refl _
set_option maxRecDepth 100000 in
theorem ask_asker_fail.le (k : Nat) : ∀ a0 a1 a2 a3, Le (ask_asker_fail.f k a0 a1 a2 a3) (ask_asker_fail.f (k + 1) a0 a1 a2 a3) := ask_asker_fail.les k

set_option maxRecDepth 100000 in
theorem ask_asker_name.les (k : Nat) : (∀ a0 a1 a2 a3, Le (ask_asker_name.f k a0 a1 a2 a3) (ask_asker_name.f (k + 1) a0 a1 a2 a3)) ∧ (∀ a0 a1 a2 a3, Le (ask_asker_name.j0 k a0 a1 a2 a3) (ask_asker_name.j0 (k + 1) a0 a1 a2 a3)) := by
  induction k with
  | zero => exact ⟨fun _ _ _ _ => Le.none _, fun _ _ _ _ => Le.none _⟩
  | succ k ih =>
    obtain ⟨h0, h1⟩ := ih
    exact ⟨fun _ _ _ _ => Le.cond (Le.bind (ask_asker_fail.le ..) fun _ => Le.refl _) (Le.cond (Le.bind (ask_asker_fail.le ..) fun _ => Le.refl _) (Le.bind (Le.refl _) fun _ => Le.cond (Le.bind (ask_asker_fail.le ..) fun _ => Le.refl _) (h1 ..))), fun _ _ _ _ => Le.refl _⟩
set_option maxRecDepth 100000 in
theorem ask_asker_name.le (k : Nat) : ∀ a0 a1 a2 a3, Le (ask_asker_name.f k a0 a1 a2 a3) (ask_asker_name.f (k + 1) a0 a1 a2 a3) := (ask_asker_name.les k).1

set_option maxRecDepth 100000 in
theorem say_parser_here.les (k : Nat) : (∀ a0 a1 a2 a3, Le (say_parser_here.f k a0 a1 a2 a3) (say_parser_here.f (k + 1) a0 a1 a2 a3)) := by
  induction k with
  | zero => exact fun _ _ _ _ => Le.none _
  | succ k ih =>
    have h0 := ih
    exact fun _ _ _ _ => Le.refl _
set_option maxRecDepth 100000 in
theorem say_parser_here.le (k : Nat) : ∀ a0 a1 a2 a3, Le (say_parser_here.f k a0 a1 a2 a3) (say_parser_here.f (k + 1) a0 a1 a2 a3) := say_parser_here.les k

set_option maxRecDepth 100000 in
theorem say_parser_fail.les (k : Nat) : (∀ a0 a1 a2 a3, Le (say_parser_fail.f k a0 a1 a2 a3) (say_parser_fail.f (k + 1) a0 a1 a2 a3)) := by
  induction k with
  | zero => exact fun _ _ _ _ => Le.none _
  | succ k ih =>
    have h0 := ih
    exact fun _ _ _ _ => Le.cond (Le.bind (say_parser_here.le ..) fun _ => Le.refl _) (Le.refl _)
set_option maxRecDepth 100000 in
theorem say_parser_fail.le (k : Nat) : ∀ a0 a1 a2 a3, Le (say_parser_fail.f k a0 a1 a2 a3) (say_parser_fail.f (k + 1) a0 a1 a2 a3) := say_parser_fail.les k

set_option maxRecDepth 100000 in
theorem say_parser_take.les (k : Nat) : (∀ a0 a1 a2 a3 a4, Le (say_parser_take.f k a0 a1 a2 a3 a4) (say_parser_take.f (k + 1) a0 a1 a2 a3 a4)) ∧ (∀ a0 a1 a2 a3, Le (say_parser_take.j0 k a0 a1 a2 a3) (say_parser_take.j0 (k + 1) a0 a1 a2 a3)) := by
  induction k with
  | zero => exact ⟨fun _ _ _ _ _ => Le.none _, fun _ _ _ _ => Le.none _⟩
  | succ k ih =>
    obtain ⟨h0, h1⟩ := ih
    exact ⟨fun _ _ _ _ _ => Le.cond (Le.refl _) (Le.cond (Le.bind (say_parser_fail.le ..) fun _ => Le.refl _) (Le.bind (Le.refl _) fun _ => Le.cond (Le.bind (say_parser_fail.le ..) fun _ => Le.refl _) (h1 ..))), fun _ _ _ _ => Le.refl _⟩
set_option maxRecDepth 100000 in
theorem say_parser_take.le (k : Nat) : ∀ a0 a1 a2 a3 a4, Le (say_parser_take.f k a0 a1 a2 a3 a4) (say_parser_take.f (k + 1) a0 a1 a2 a3 a4) := (say_parser_take.les k).1

set_option maxRecDepth 100000 in
theorem say_digits.les (k : Nat) : (∀ a0, Le (say_digits.f k a0) (say_digits.f (k + 1) a0)) ∧ (∀ a0, Le (say_digits.j0 k a0) (say_digits.j0 (k + 1) a0)) ∧ (∀ a0 a1 a2 a3, Le (say_digits.l0 k a0 a1 a2 a3) (say_digits.l0 (k + 1) a0 a1 a2 a3)) := by
  induction k with
  | zero => exact ⟨fun _ => Le.none _, fun _ => Le.none _, fun _ _ _ _ => Le.none _⟩
  | succ k ih =>
    obtain ⟨h0, h1, h2⟩ := ih
    exact ⟨fun _ => Le.cond (Le.refl _) (Le.cond (Le.bind (Le.refl _) fun _ => Le.cond (Le.refl _) (Le.cond (Le.refl _) (h1 ..))) (Le.cond (Le.refl _) (h1 ..))), fun _ => h2 .., fun _ _ _ _ => Le.cond (Le.bind (Le.refl _) fun _ => (by first | exact Le.bind (Le.refl _) (fun _ => Le.cond (Le.refl _) (h2 ..)) | exact Le.cond (Le.refl _) (h2 ..))) (Le.refl _)⟩
set_option maxRecDepth 100000 in
theorem say_digits.le (k : Nat) : ∀ a0, Le (say_digits.f k a0) (say_digits.f (k + 1) a0) := (say_digits.les k).1

set_option maxRecDepth 100000 in
theorem say_parser_number.les (k : Nat) : (∀ a0 a1 a2 a3, Le (say_parser_number.f k a0 a1 a2 a3) (say_parser_number.f (k + 1) a0 a1 a2 a3)) ∧ (∀ a0 a1 a2 a3 a4 a5 a6, Le (say_parser_number.j0 k a0 a1 a2 a3 a4 a5 a6) (say_parser_number.j0 (k + 1) a0 a1 a2 a3 a4 a5 a6)) := by
  induction k with
  | zero => exact ⟨fun _ _ _ _ => Le.none _, fun _ _ _ _ _ _ _ => Le.none _⟩
  | succ k ih =>
    obtain ⟨h0, h1⟩ := ih
    exact ⟨fun _ _ _ _ => Le.bind (say_parser_take.le ..) fun _ => Le.cond (Le.refl _) (Le.bind (Le.refl _) fun _ => Le.cond (Le.bind (Le.refl _) fun _ => h1 ..) (h1 ..)), fun _ _ _ _ _ _ _ => Le.bind (say_digits.le ..) fun _ => Le.cond (Le.bind (say_parser_fail.le ..) fun _ => Le.refl _) (Le.cond (Le.cond (Le.bind (say_parser_fail.le ..) fun _ => Le.refl _) (Le.cond (Le.cond (Le.bind (say_parser_fail.le ..) fun _ => Le.refl _) (Le.cond (Le.bind (say_parser_fail.le ..) fun _ => Le.refl _) (Le.cond (Le.refl _) (Le.refl _)))) (Le.cond (Le.refl _) (Le.refl _)))) (Le.cond (Le.cond (Le.bind (say_parser_fail.le ..) fun _ => Le.refl _) (Le.cond (Le.bind (say_parser_fail.le ..) fun _ => Le.refl _) (Le.cond (Le.refl _) (Le.refl _)))) (Le.cond (Le.refl _) (Le.refl _))))⟩
set_option maxRecDepth 100000 in
theorem say_parser_number.le (k : Nat) : ∀ a0 a1 a2 a3, Le (say_parser_number.f k a0 a1 a2 a3) (say_parser_number.f (k + 1) a0 a1 a2 a3) := (say_parser_number.les k).1

set_option maxRecDepth 100000 in
theorem say_parser_peek.les (k : Nat) : (∀ a0 a1 a2 a3 a4, Le (say_parser_peek.f k a0 a1 a2 a3 a4) (say_parser_peek.f (k + 1) a0 a1 a2 a3 a4)) := by
  induction k with
  | zero => exact fun _ _ _ _ _ => Le.none _
  | succ k ih =>
    have h0 := ih
    exact fun _ _ _ _ _ => Le.refl _
set_option maxRecDepth 100000 in
theorem say_parser_peek.le (k : Nat) : ∀ a0 a1 a2 a3 a4, Le (say_parser_peek.f k a0 a1 a2 a3 a4) (say_parser_peek.f (k + 1) a0 a1 a2 a3 a4) := say_parser_peek.les k

set_option maxRecDepth 100000 in
theorem say_parser_mark.les (k : Nat) : (∀ a0 a1 a2 a3 a4, Le (say_parser_mark.f k a0 a1 a2 a3 a4) (say_parser_mark.f (k + 1) a0 a1 a2 a3 a4)) := by
  induction k with
  | zero => exact fun _ _ _ _ _ => Le.none _
  | succ k ih =>
    have h0 := ih
    exact fun _ _ _ _ _ => Le.bind (say_parser_peek.le ..) fun _ => Le.cond (Le.bind (say_parser_fail.le ..) fun _ => Le.refl _) (Le.refl _)
set_option maxRecDepth 100000 in
theorem say_parser_mark.le (k : Nat) : ∀ a0 a1 a2 a3 a4, Le (say_parser_mark.f k a0 a1 a2 a3 a4) (say_parser_mark.f (k + 1) a0 a1 a2 a3 a4) := say_parser_mark.les k

set_option maxRecDepth 100000 in
theorem say_nibble.les (k : Nat) : (∀ a0, Le (say_nibble.f k a0) (say_nibble.f (k + 1) a0)) := by
  induction k with
  | zero => exact fun _ => Le.none _
  | succ k ih =>
    have h0 := ih
    exact fun _ => Le.bind (say_digit.le ..) fun _ => Le.cond (Le.refl _) (Le.cond (Le.cond (Le.refl _) (Le.refl _)) (Le.refl _))
set_option maxRecDepth 100000 in
theorem say_nibble.le (k : Nat) : ∀ a0, Le (say_nibble.f k a0) (say_nibble.f (k + 1) a0) := say_nibble.les k

set_option maxRecDepth 100000 in
theorem say_parser_float.les (k : Nat) : (∀ a0 a1 a2 a3, Le (say_parser_float.f k a0 a1 a2 a3) (say_parser_float.f (k + 1) a0 a1 a2 a3)) ∧ (∀ a0 a1 a2 a3 a4 a5 a6 a7 a8 a9 a10 a11 a12 a13 a14 a15 a16 a17, Le (say_parser_float.l0 k a0 a1 a2 a3 a4 a5 a6 a7 a8 a9 a10 a11 a12 a13 a14 a15 a16 a17) (say_parser_float.l0 (k + 1) a0 a1 a2 a3 a4 a5 a6 a7 a8 a9 a10 a11 a12 a13 a14 a15 a16 a17)) := by
  induction k with
  | zero => exact ⟨fun _ _ _ _ => Le.none _, fun _ _ _ _ _ _ _ _ _ _ _ _ _ _ _ _ _ _ => Le.none _⟩
  | succ k ih =>
    obtain ⟨h0, h1⟩ := ih
    exact ⟨fun _ _ _ _ => Le.bind (say_parser_mark.le ..) fun _ => Le.bind (say_parser_take.le ..) fun _ => Le.cond (Le.refl _) (h1 ..), fun _ _ _ _ _ _ _ _ _ _ _ _ _ _ _ _ _ _ => Le.cond (Le.bind (Le.refl _) fun _ => Le.bind (say_nibble.le ..) fun _ => Le.cond (Le.bind (say_parser_fail.le ..) fun _ => Le.refl _) (Le.cond (Le.bind (say_parser_fail.le ..) fun _ => Le.refl _) ((by first | exact Le.bind (Le.refl _) (fun _ => h1 ..) | exact h1 ..)))) (Le.cond (Le.bind (say_parser_fail.le ..) fun _ => Le.bind (say_parser_mark.le ..) fun _ => Le.refl _) (Le.bind (say_parser_mark.le ..) fun _ => Le.refl _))⟩
set_option maxRecDepth 100000 in
theorem say_parser_float.le (k : Nat) : ∀ a0 a1 a2 a3, Le (say_parser_float.f k a0 a1 a2 a3) (say_parser_float.f (k + 1) a0 a1 a2 a3) := (say_parser_float.les k).1

set_option maxRecDepth 100000 in
theorem say_parser_word.les (k : Nat) : (∀ a0 a1 a2 a3 a4, Le (say_parser_word.f k a0 a1 a2 a3 a4) (say_parser_word.f (k + 1) a0 a1 a2 a3 a4)) ∧ (∀ a0 a1 a2 a3 a4 a5 a6 a7 a8 a9 a10 a11, Le (say_parser_word.j0 k a0 a1 a2 a3 a4 a5 a6 a7 a8 a9 a10 a11) (say_parser_word.j0 (k + 1) a0 a1 a2 a3 a4 a5 a6 a7 a8 a9 a10 a11)) := by
  induction k with
  | zero => exact ⟨fun _ _ _ _ _ => Le.none _, fun _ _ _ _ _ _ _ _ _ _ _ _ => Le.none _⟩
  | succ k ih =>
    obtain ⟨h0, h1⟩ := ih
    exact ⟨fun _ _ _ _ _ => Le.cond (Le.refl _) (Le.cond (h1 ..) (h1 ..)), fun _ _ _ _ _ _ _ _ _ _ _ _ => Le.cond (Le.refl _) (Le.cond (Le.bind (say_parser_float.le ..) fun _ => Le.refl _) (Le.bind (say_parser_fail.le ..) fun _ => Le.refl _))⟩
set_option maxRecDepth 100000 in
theorem say_parser_word.le (k : Nat) : ∀ a0 a1 a2 a3 a4, Le (say_parser_word.f k a0 a1 a2 a3 a4) (say_parser_word.f (k + 1) a0 a1 a2 a3 a4) := (say_parser_word.les k).1

set_option maxRecDepth 100000 in
theorem say_parser_value.les (k : Nat) : (∀ a0 a1 a2 a3, Le (say_parser_value.f k a0 a1 a2 a3) (say_parser_value.f (k + 1) a0 a1 a2 a3)) ∧ (∀ a0 a1 a2 a3 a4 a5 a6 a7 a8, Le (say_parser_value.j0 k a0 a1 a2 a3 a4 a5 a6 a7 a8) (say_parser_value.j0 (k + 1) a0 a1 a2 a3 a4 a5 a6 a7 a8)) := by
  induction k with
  | zero => exact ⟨fun _ _ _ _ => Le.none _, fun _ _ _ _ _ _ _ _ _ => Le.none _⟩
  | succ k ih =>
    obtain ⟨h0, h1⟩ := ih
    exact ⟨fun _ _ _ _ => Le.cond (Le.bind (say_parser_fail.le ..) fun _ => Le.refl _) (Le.cond (Le.bind (say_parser_fail.le ..) fun _ => Le.refl _) (h1 ..)), fun _ _ _ _ _ _ _ _ _ => Le.bind (Le.refl _) fun _ => Le.cond (Le.bind (say_parser_number.le ..) fun _ => Le.refl _) (Le.cond (Le.refl _) (Le.cond (Le.bind (say_parser_word.le ..) fun _ => Le.refl _) (Le.bind (say_parser_fail.le ..) fun _ => Le.refl _)))⟩
set_option maxRecDepth 100000 in
theorem say_parser_value.le (k : Nat) : ∀ a0 a1 a2 a3, Le (say_parser_value.f k a0 a1 a2 a3) (say_parser_value.f (k + 1) a0 a1 a2 a3) := (say_parser_value.les k).1

set_option maxRecDepth 100000 in
theorem say_TakeValue.les (k : Nat) : (∀ a0, Le (say_TakeValue.f k a0) (say_TakeValue.f (k + 1) a0)) := by
  induction k with
  | zero => exact fun _ => Le.none _
  | succ k ih =>
    have h0 := ih
    exact fun _ => Le.bind (say_parser_value.le ..) fun _ => Le.cond (Le.refl _) (Le.refl _)
set_option maxRecDepth 100000 in
theorem say_TakeValue.le (k : Nat) : ∀ a0, Le (say_TakeValue.f k a0) (say_TakeValue.f (k + 1) a0) := say_TakeValue.les k

set_option maxRecDepth 100000 in
theorem ask_asker_value.les (k : Nat) : (∀ a0 a1 a2 a3, Le (ask_asker_value.f k a0 a1 a2 a3) (ask_asker_value.f (k + 1) a0 a1 a2 a3)) := by
  induction k with
  | zero => exact fun _ _ _ _ => Le.none _
  | succ k ih =>
    have h0 := ih
    exact fun _ _ _ _ => Le.cond (Le.refl _) (Le.bind (Le.refl _) fun _ => Le.bind (say_TakeValue.le ..) fun _ => Le.cond (Le.bind (ask_asker_fail.le ..) fun _ => Le.refl _) (Le.refl _))
set_option maxRecDepth 100000 in
theorem ask_asker_value.le (k : Nat) : ∀ a0 a1 a2 a3, Le (ask_asker_value.f k a0 a1 a2 a3) (ask_asker_value.f (k + 1) a0 a1 a2 a3) := ask_asker_value.les k

set_option maxRecDepth 100000 in
theorem ask_asker_term.les (k : Nat) : (∀ a0 a1 a2 a3, Le (ask_asker_term.f k a0 a1 a2 a3) (ask_asker_term.f (k + 1) a0 a1 a2 a3)) := by
  induction k with
  | zero => exact fun _ _ _ _ => Le.none _
  | succ k ih =>
    have h0 := ih
    exact fun _ _ _ _ => Le.bind (ask_asker_word.le ..) fun _ => Le.bind (ask_asker_name.le ..) fun _ => Le.bind (ask_asker_word.le ..) fun _ => Le.cond (Le.refl _) (Le.bind (ask_asker_word.le ..) fun _ => Le.cond (Le.bind (ask_asker_value.le ..) fun _ => Le.refl _) (Le.bind (ask_asker_word.le ..) fun _ => Le.cond (Le.bind (ask_asker_value.le ..) fun _ => Le.bind (ask_asker_word.le ..) fun _ => Le.cond (Le.bind (ask_asker_value.le ..) fun _ => Le.refl _) (Le.refl _)) (Le.bind (ask_asker_word.le ..) fun _ => Le.cond (Le.bind (ask_asker_value.le ..) fun _ => Le.refl _) (Le.bind (ask_asker_fail.le ..) fun _ => Le.refl _))))
set_option maxRecDepth 100000 in
theorem ask_asker_term.le (k : Nat) : ∀ a0 a1 a2 a3, Le (ask_asker_term.f k a0 a1 a2 a3) (ask_asker_term.f (k + 1) a0 a1 a2 a3) := ask_asker_term.les k

set_option maxRecDepth 100000 in
theorem ask_asker_number.les (k : Nat) : (∀ a0 a1 a2 a3, Le (ask_asker_number.f k a0 a1 a2 a3) (ask_asker_number.f (k + 1) a0 a1 a2 a3)) := by
  induction k with
  | zero => exact fun _ _ _ _ => Le.none _
  | succ k ih =>
    have h0 := ih
    exact fun _ _ _ _ => Le.bind (ask_asker_value.le ..) fun _ => Le.cond (Le.cond (Le.bind (ask_asker_fail.le ..) fun _ => Le.refl _) (Le.cond (Le.bind (ask_asker_fail.le ..) fun _ => Le.refl _) (Le.refl _))) (Le.refl _)
set_option maxRecDepth 100000 in
theorem ask_asker_number.le (k : Nat) : ∀ a0 a1 a2 a3, Le (ask_asker_number.f k a0 a1 a2 a3) (ask_asker_number.f (k + 1) a0 a1 a2 a3) := ask_asker_number.les k

set_option maxRecDepth 100000 in
theorem ask_Read.les (k : Nat) : (∀ a0, Le (ask_Read.f k a0) (ask_Read.f (k + 1) a0)) ∧ (∀ a0 a1 a2 a3 a4 a5 a6 a7 a8 a9 a10 a11, Le (ask_Read.l0 k a0 a1 a2 a3 a4 a5 a6 a7 a8 a9 a10 a11) (ask_Read.l0 (k + 1) a0 a1 a2 a3 a4 a5 a6 a7 a8 a9 a10 a11)) ∧ (∀ a0 a1 a2 a3 a4 a5 a6 a7 a8 a9 a10 a11, Le (ask_Read.j0 k a0 a1 a2 a3 a4 a5 a6 a7 a8 a9 a10 a11) (ask_Read.j0 (k + 1) a0 a1 a2 a3 a4 a5 a6 a7 a8 a9 a10 a11)) ∧ (∀ a0 a1 a2 a3 a4 a5 a6 a7 a8 a9 a10 a11, Le (ask_Read.j1 k a0 a1 a2 a3 a4 a5 a6 a7 a8 a9 a10 a11) (ask_Read.j1 (k + 1) a0 a1 a2 a3 a4 a5 a6 a7 a8 a9 a10 a11)) ∧ (∀ a0 a1 a2 a3 a4 a5 a6 a7 a8 a9 a10 a11, Le (ask_Read.j2 k a0 a1 a2 a3 a4 a5 a6 a7 a8 a9 a10 a11) (ask_Read.j2 (k + 1) a0 a1 a2 a3 a4 a5 a6 a7 a8 a9 a10 a11)) ∧ (∀ a0 a1 a2 a3 a4 a5 a6 a7 a8 a9 a10 a11, Le (ask_Read.j3 k a0 a1 a2 a3 a4 a5 a6 a7 a8 a9 a10 a11) (ask_Read.j3 (k + 1) a0 a1 a2 a3 a4 a5 a6 a7 a8 a9 a10 a11)) := by
  induction k with
  | zero => exact ⟨fun _ => Le.none _, fun _ _ _ _ _ _ _ _ _ _ _ _ => Le.none _, fun _ _ _ _ _ _ _ _ _ _ _ _ => Le.none _, fun _ _ _ _ _ _ _ _ _ _ _ _ => Le.none _, fun _ _ _ _ _ _ _ _ _ _ _ _ => Le.none _, fun _ _ _ _ _ _ _ _ _ _ _ _ => Le.none _⟩
  | succ k ih =>
    obtain ⟨h0, h1, h2, h3, h4, h5⟩ := ih
    exact ⟨fun _ => Le.bind (say_Tokens.le ..) fun _ => Le.cond (Le.refl _) (Le.bind (ask_asker_word.le ..) fun _ => Le.cond (Le.bind (ask_asker_term.le ..) fun _ => Le.bind (Le.refl _) fun _ => h1 ..) (h2 ..)), fun _ _ _ _ _ _ _ _ _ _ _ _ => Le.bind (ask_asker_word.le ..) fun _ => Le.cond (Le.bind (ask_asker_term.le ..) fun _ => Le.bind (Le.refl _) fun _ => h1 ..) (h2 ..), fun _ _ _ _ _ _ _ _ _ _ _ _ => Le.bind (ask_asker_word.le ..) fun _ => Le.cond (Le.bind (ask_asker_name.le ..) fun _ => Le.cond (Le.bind (ask_asker_fail.le ..) fun _ => Le.bind (ask_asker_word.le ..) fun _ => h3 ..) (Le.bind (ask_asker_word.le ..) fun _ => h3 ..)) (h3 ..), fun _ _ _ _ _ _ _ _ _ _ _ _ => Le.bind (ask_asker_word.le ..) fun _ => Le.cond (Le.bind (ask_asker_number.le ..) fun _ => h4 ..) (h4 ..), fun _ _ _ _ _ _ _ _ _ _ _ _ => Le.cond (Le.bind (ask_asker_fail.le ..) fun _ => h5 ..) (h5 ..), fun _ _ _ _ _ _ _ _ _ _ _ _ => Le.refl _⟩
set_option maxRecDepth 100000 in
theorem ask_Read.le (k : Nat) : ∀ a0, Le (ask_Read.f k a0) (ask_Read.f (k + 1) a0) := (ask_Read.les k).1

set_option maxRecDepth 100000 in
theorem chartularylaw26_awake.les (k : Nat) : (Le (chartularylaw26_awake.f k) (chartularylaw26_awake.f (k + 1))) := by
  induction k with
  | zero => exact Le.none _
  | succ k ih =>
    have h0 := ih
    exact Le.bind (ask_Read.le ..) fun _ => Le.cond (Le.cond (Le.bind (Le.refl _) fun _ => Le.cond (Le.bind (Le.refl _) fun _ => Le.cond (Le.cond (Le.cond (Le.refl _) (Le.refl _)) (Le.refl _)) (Le.refl _)) (Le.refl _)) (Le.refl _)) (Le.refl _)
set_option maxRecDepth 100000 in
theorem chartularylaw26_awake.le (k : Nat) : Le (chartularylaw26_awake.f k) (chartularylaw26_awake.f (k + 1)) := chartularylaw26_awake.les k

set_option maxRecDepth 100000 in
theorem chartularylaw05_Few.les (k : Nat) : (∀ a0, Le (chartularylaw05_Few.f k a0) (chartularylaw05_Few.f (k + 1) a0)) ∧ (∀ a0 a1 a2 a3 a4 a5 a6 a7 a8, Le (chartularylaw05_Few.j0 k a0 a1 a2 a3 a4 a5 a6 a7 a8) (chartularylaw05_Few.j0 (k + 1) a0 a1 a2 a3 a4 a5 a6 a7 a8)) ∧ (∀ a0 a1 a2 a3 a4 a5 a6 a7 a8 a9, Le (chartularylaw05_Few.l0 k a0 a1 a2 a3 a4 a5 a6 a7 a8 a9) (chartularylaw05_Few.l0 (k + 1) a0 a1 a2 a3 a4 a5 a6 a7 a8 a9)) := by
  induction k with
  | zero => exact ⟨fun _ => Le.none _, fun _ _ _ _ _ _ _ _ _ => Le.none _, fun _ _ _ _ _ _ _ _ _ _ => Le.none _⟩
  | succ k ih =>
    obtain ⟨h0, h1, h2⟩ := ih
    exact ⟨fun _ => Le.cond (Le.bind (Le.refl _) fun _ => h1 ..) (h1 ..), fun _ _ _ _ _ _ _ _ _ => h2 .., fun _ _ _ _ _ _ _ _ _ _ => Le.cond (Le.cond (Le.bind (Le.refl _) fun _ => Le.cond (Le.bind (Le.refl _) fun _ => Le.cond (Le.bind (Le.refl _) fun _ => Le.bind (Le.refl _) fun _ => h2 ..) (Le.bind (Le.refl _) fun _ => h2 ..)) (Le.cond (Le.bind (Le.refl _) fun _ => Le.bind (Le.refl _) fun _ => h2 ..) (Le.bind (Le.refl _) fun _ => h2 ..))) (Le.refl _)) (Le.refl _)⟩
set_option maxRecDepth 100000 in
theorem chartularylaw05_Few.le (k : Nat) : ∀ a0, Le (chartularylaw05_Few.f k a0) (chartularylaw05_Few.f (k + 1) a0) := (chartularylaw05_Few.les k).1

set_option maxRecDepth 100000 in
theorem paper_Find_1_v0.les (k : Nat) : (∀ a0 a1, Le (paper_Find_1_v0.f k a0 a1) (paper_Find_1_v0.f (k + 1) a0 a1)) := by
  induction k with
  | zero => exact fun _ _ => Le.none _
  | succ k ih =>
    have h0 := ih
    exact fun _ _ => Le.refl _
set_option maxRecDepth 100000 in
theorem paper_Find_1_v0.le (k : Nat) : ∀ a0 a1, Le (paper_Find_1_v0.f k a0 a1) (paper_Find_1_v0.f (k + 1) a0 a1) := paper_Find_1_v0.les k

set_option maxRecDepth 100000 in
theorem slices_IndexFunc_api_Field_v0.les (k : Nat) : (∀ a0 a1, Le (slices_IndexFunc_api_Field_v0.f k a0 a1) (slices_IndexFunc_api_Field_v0.f (k + 1) a0 a1)) ∧ (∀ a0 a1 a2 a3, Le (slices_IndexFunc_api_Field_v0.l0 k a0 a1 a2 a3) (slices_IndexFunc_api_Field_v0.l0 (k + 1) a0 a1 a2 a3)) := by
  induction k with
  | zero => exact ⟨fun _ _ => Le.none _, fun _ _ _ _ => Le.none _⟩
  | succ k ih =>
    obtain ⟨h0, h1⟩ := ih
    exact ⟨fun _ _ => h1 .., fun _ _ _ _ => Le.cond (Le.bind (Le.refl _) fun _ => Le.bind (paper_Find_1_v0.le ..) fun _ => Le.cond (Le.refl _) (h1 ..)) (Le.refl _)⟩
set_option maxRecDepth 100000 in
theorem slices_IndexFunc_api_Field_v0.le (k : Nat) : ∀ a0 a1, Le (slices_IndexFunc_api_Field_v0.f k a0 a1) (slices_IndexFunc_api_Field_v0.f (k + 1) a0 a1) := (slices_IndexFunc_api_Field_v0.les k).1

set_option maxRecDepth 100000 in
theorem paper_Find.les (k : Nat) : (∀ a0 a1, Le (paper_Find.f k a0 a1) (paper_Find.f (k + 1) a0 a1)) := by
  induction k with
  | zero => exact fun _ _ => Le.none _
  | succ k ih =>
    have h0 := ih
    exact fun _ _ => Le.bind (slices_IndexFunc_api_Field_v0.le ..) fun _ => Le.refl _
set_option maxRecDepth 100000 in
theorem paper_Find.le (k : Nat) : ∀ a0 a1, Le (paper_Find.f k a0 a1) (paper_Find.f (k + 1) a0 a1) := paper_Find.les k

set_option maxRecDepth 100000 in
theorem value_sign.les (k : Nat) : (∀ a0 a1, Le (value_sign.f k a0 a1) (value_sign.f (k + 1) a0 a1)) := by
  induction k with
  | zero => exact fun _ _ => Le.none _
  | succ k ih =>
    have h0 := ih
    exact fun _ _ => Le.refl _
set_option maxRecDepth 100000 in
theorem value_sign.le (k : Nat) : ∀ a0 a1, Le (value_sign.f k a0 a1) (value_sign.f (k + 1) a0 a1) := value_sign.les k

set_option maxRecDepth 100000 in
theorem value_rank.les (k : Nat) : (∀ a0, Le (value_rank.f k a0) (value_rank.f (k + 1) a0)) := by
  induction k with
  | zero => exact fun _ => Le.none _
  | succ k ih =>
    have h0 := ih
    exact fun _ => Le.refl _
set_option maxRecDepth 100000 in
theorem value_rank.le (k : Nat) : ∀ a0, Le (value_rank.f k a0) (value_rank.f (k + 1) a0) := value_rank.les k

set_option maxRecDepth 100000 in
theorem bytealg_CompareString.les (k : Nat) : (∀ a0 a1, Le (bytealg_CompareString.f k a0 a1) (bytealg_CompareString.f (k + 1) a0 a1)) := by
  induction k with
  | zero => exact fun _ _ => Le.none _
  | succ k ih =>
    have h0 := ih
    exact fun _ _ => Le.refl _
set_option maxRecDepth 100000 in
theorem bytealg_CompareString.le (k : Nat) : ∀ a0 a1, Le (bytealg_CompareString.f k a0 a1) (bytealg_CompareString.f (k + 1) a0 a1) := bytealg_CompareString.les k

set_option maxRecDepth 100000 in
theorem strings_Compare.les (k : Nat) : (∀ a0 a1, Le (strings_Compare.f k a0 a1) (strings_Compare.f (k + 1) a0 a1)) := by
  induction k with
  | zero => exact fun _ _ => Le.none _
  | succ k ih =>
    have h0 := ih
    exact fun _ _ => Le.bind (bytealg_CompareString.le ..) fun _ => Le.refl _
set_option maxRecDepth 100000 in
theorem strings_Compare.le (k : Nat) : ∀ a0 a1, Le (strings_Compare.f k a0 a1) (strings_Compare.f (k + 1) a0 a1) := strings_Compare.les k

set_option maxRecDepth 100000 in
theorem value_Compare.les (k : Nat) : (∀ a0 a1, Le (value_Compare.f k a0 a1) (value_Compare.f (k + 1) a0 a1)) := by
  induction k with
  | zero => exact fun _ _ => Le.none _
  | succ k ih =>
    have h0 := ih
    exact fun _ _ => Le.cond (Le.bind (value_sign.le ..) fun _ => Le.refl _) (Le.cond (Le.cond (Le.cond (Le.bind (value_sign.le ..) fun _ => Le.refl _) (Le.bind (value_sign.le ..) fun _ => Le.refl _)) (Le.cond (Le.bind (value_sign.le ..) fun _ => Le.refl _) (Le.bind (value_sign.le ..) fun _ => Le.refl _))) (Le.cond (Le.bind (value_sign.le ..) fun _ => Le.refl _) (Le.cond (Le.bind (value_Clean.le ..) fun _ => Le.bind (value_rank.le ..) fun _ => Le.bind (value_Clean.le ..) fun _ => Le.bind (value_rank.le ..) fun _ => Le.bind (value_sign.le ..) fun _ => Le.refl _) (Le.cond (Le.bind (strings_Compare.le ..) fun _ => Le.refl _) (Le.refl _)))))
set_option maxRecDepth 100000 in
theorem value_Compare.le (k : Nat) : ∀ a0 a1, Le (value_Compare.f k a0 a1) (value_Compare.f (k + 1) a0 a1) := value_Compare.les k

set_option maxRecDepth 100000 in
theorem find_between.les (k : Nat) : (∀ a0 a1, Le (find_between.f k a0 a1) (find_between.f (k + 1) a0 a1)) ∧ (∀ a0 a1 a2 a3 a4 a5 a6 a7 a8 a9 a10, Le (find_between.j0 k a0 a1 a2 a3 a4 a5 a6 a7 a8 a9 a10) (find_between.j0 (k + 1) a0 a1 a2 a3 a4 a5 a6 a7 a8 a9 a10)) := by
  induction k with
  | zero => exact ⟨fun _ _ => Le.none _, fun _ _ _ _ _ _ _ _ _ _ _ => Le.none _⟩
  | succ k ih =>
    obtain ⟨h0, h1⟩ := ih
    exact ⟨fun _ _ => Le.cond (Le.cond (Le.refl _) (Le.bind (value_Compare.le ..) fun _ => Le.cond (Le.refl _) (h1 ..))) (h1 ..), fun _ _ _ _ _ _ _ _ _ _ _ => Le.cond (Le.refl _) (Le.cond (Le.bind (value_Compare.le ..) fun _ => Le.refl _) (Le.refl _))⟩
set_option maxRecDepth 100000 in
theorem find_between.le (k : Nat) : ∀ a0 a1, Le (find_between.f k a0 a1) (find_between.f (k + 1) a0 a1) := (find_between.les k).1

set_option maxRecDepth 100000 in
theorem find_Holds.les (k : Nat) : (∀ a0 a1, Le (find_Holds.f k a0 a1) (find_Holds.f (k + 1) a0 a1)) := by
  induction k with
  | zero => exact fun _ _ => Le.none _
  | succ k ih =>
    have h0 := ih
    exact fun _ _ => Le.bind (paper_Find.le ..) fun _ => Le.cond (Le.bind (Le.refl _) fun _ => Le.bind (find_between.le ..) fun _ => Le.refl _) (Le.refl _)
set_option maxRecDepth 100000 in
theorem find_Holds.le (k : Nat) : ∀ a0 a1, Le (find_Holds.f k a0 a1) (find_Holds.f (k + 1) a0 a1) := find_Holds.les k

set_option maxRecDepth 100000 in
theorem find_by.les (k : Nat) : (∀ a0 a1, Le (find_by.f k a0 a1) (find_by.f (k + 1) a0 a1)) := by
  induction k with
  | zero => exact fun _ _ => Le.none _
  | succ k ih =>
    have h0 := ih
    exact fun _ _ => Le.bind (paper_Find.le ..) fun _ => Le.cond (Le.refl _) (Le.bind (Le.refl _) fun _ => Le.refl _)
set_option maxRecDepth 100000 in
theorem find_by.le (k : Nat) : ∀ a0 a1, Le (find_by.f k a0 a1) (find_by.f (k + 1) a0 a1) := find_by.les k

set_option maxRecDepth 100000 in
theorem find_compare.les (k : Nat) : (∀ a0 a1 a2 a3, Le (find_compare.f k a0 a1 a2 a3) (find_compare.f (k + 1) a0 a1 a2 a3)) := by
  induction k with
  | zero => exact fun _ _ _ _ => Le.none _
  | succ k ih =>
    have h0 := ih
    exact fun _ _ _ _ => Le.bind (find_by.le ..) fun _ => Le.bind (find_by.le ..) fun _ => Le.cond (Le.cond (Le.refl _) (Le.cond (Le.refl _) (Le.cond (Le.refl _) (Le.cond (Le.bind (value_Compare.le ..) fun _ => Le.refl _) (Le.bind (value_Compare.le ..) fun _ => Le.refl _))))) (Le.cond (Le.refl _) (Le.cond (Le.refl _) (Le.cond (Le.bind (value_Compare.le ..) fun _ => Le.refl _) (Le.bind (value_Compare.le ..) fun _ => Le.refl _))))
set_option maxRecDepth 100000 in
theorem find_compare.le (k : Nat) : ∀ a0 a1 a2 a3, Le (find_compare.f k a0 a1 a2 a3) (find_compare.f (k + 1) a0 a1 a2 a3) := find_compare.les k

set_option maxRecDepth 100000 in
theorem find_Run_1_v0.les (k : Nat) : (∀ a0 a1 a2 a3 a4 a5 a6, Le (find_Run_1_v0.f k a0 a1 a2 a3 a4 a5 a6) (find_Run_1_v0.f (k + 1) a0 a1 a2 a3 a4 a5 a6)) := by
  induction k with
  | zero => exact fun _ _ _ _ _ _ _ => Le.none _
  | succ k ih =>
    have h0 := ih
    exact fun _ _ _ _ _ _ _ => Le.bind (Le.refl _) fun _ => Le.bind (Le.refl _) fun _ => Le.bind (find_compare.le ..) fun _ => Le.refl _
set_option maxRecDepth 100000 in
theorem find_Run_1_v0.le (k : Nat) : ∀ a0 a1 a2 a3 a4 a5 a6, Le (find_Run_1_v0.f k a0 a1 a2 a3 a4 a5 a6) (find_Run_1_v0.f (k + 1) a0 a1 a2 a3 a4 a5 a6) := find_Run_1_v0.les k

set_option maxRecDepth 100000 in
theorem slices_insertionSortCmpFunc_int_v0.les (k : Nat) : (∀ a0 a1 a2 a3 a4 a5 a6 a7, Le (slices_insertionSortCmpFunc_int_v0.f k a0 a1 a2 a3 a4 a5 a6 a7) (slices_insertionSortCmpFunc_int_v0.f (k + 1) a0 a1 a2 a3 a4 a5 a6 a7)) ∧ (∀ a0 a1 a2 a3 a4 a5 a6 a7 a8, Le (slices_insertionSortCmpFunc_int_v0.l0 k a0 a1 a2 a3 a4 a5 a6 a7 a8) (slices_insertionSortCmpFunc_int_v0.l0 (k + 1) a0 a1 a2 a3 a4 a5 a6 a7 a8)) ∧ (∀ a0 a1 a2 a3 a4 a5 a6 a7 a8 a9, Le (slices_insertionSortCmpFunc_int_v0.l1 k a0 a1 a2 a3 a4 a5 a6 a7 a8 a9) (slices_insertionSortCmpFunc_int_v0.l1 (k + 1) a0 a1 a2 a3 a4 a5 a6 a7 a8 a9)) := by
  induction k with
  | zero => exact ⟨fun _ _ _ _ _ _ _ _ => Le.none _, fun _ _ _ _ _ _ _ _ _ => Le.none _, fun _ _ _ _ _ _ _ _ _ _ => Le.none _⟩
  | succ k ih =>
    obtain ⟨h0, h1, h2⟩ := ih
    exact ⟨fun _ _ _ _ _ _ _ _ => h1 .., fun _ _ _ _ _ _ _ _ _ => Le.cond (h2 ..) (Le.refl _), fun _ _ _ _ _ _ _ _ _ _ => Le.cond (Le.bind (Le.refl _) fun _ => Le.bind (Le.refl _) fun _ => Le.bind (Le.refl _) fun _ => Le.bind (Le.refl _) fun _ => Le.bind (find_Run_1_v0.le ..) fun _ => Le.cond (Le.bind (Le.refl _) fun _ => Le.bind (Le.refl _) fun _ => Le.bind (Le.refl _) fun _ => Le.bind (Le.refl _) fun _ => Le.bind (Le.refl _) fun _ => Le.bind (Le.refl _) fun _ => h2 ..) (h1 ..)) (h1 ..)⟩
set_option maxRecDepth 100000 in
theorem slices_insertionSortCmpFunc_int_v0.le (k : Nat) : ∀ a0 a1 a2 a3 a4 a5 a6 a7, Le (slices_insertionSortCmpFunc_int_v0.f k a0 a1 a2 a3 a4 a5 a6 a7) (slices_insertionSortCmpFunc_int_v0.f (k + 1) a0 a1 a2 a3 a4 a5 a6 a7) := (slices_insertionSortCmpFunc_int_v0.les k).1

set_option maxRecDepth 100000 in
theorem slices_swapRangeCmpFunc_int_v0.les (k : Nat) : (∀ a0 a1 a2 a3 a4 a5 a6 a7 a8, Le (slices_swapRangeCmpFunc_int_v0.f k a0 a1 a2 a3 a4 a5 a6 a7 a8) (slices_swapRangeCmpFunc_int_v0.f (k + 1) a0 a1 a2 a3 a4 a5 a6 a7 a8)) ∧ (∀ a0 a1 a2 a3 a4 a5 a6 a7 a8 a9, Le (slices_swapRangeCmpFunc_int_v0.l0 k a0 a1 a2 a3 a4 a5 a6 a7 a8 a9) (slices_swapRangeCmpFunc_int_v0.l0 (k + 1) a0 a1 a2 a3 a4 a5 a6 a7 a8 a9)) := by
  induction k with
  | zero => exact ⟨fun _ _ _ _ _ _ _ _ _ => Le.none _, fun _ _ _ _ _ _ _ _ _ _ => Le.none _⟩
  | succ k ih =>
    obtain ⟨h0, h1⟩ := ih
    exact ⟨fun _ _ _ _ _ _ _ _ _ => h1 .., fun _ _ _ _ _ _ _ _ _ _ => Le.cond (Le.bind (Le.refl _) fun _ => Le.bind (Le.refl _) fun _ => Le.bind (Le.refl _) fun _ => Le.bind (Le.refl _) fun _ => Le.bind (Le.refl _) fun _ => Le.bind (Le.refl _) fun _ => h1 ..) (Le.refl _)⟩
set_option maxRecDepth 100000 in
theorem slices_swapRangeCmpFunc_int_v0.le (k : Nat) : ∀ a0 a1 a2 a3 a4 a5 a6 a7 a8, Le (slices_swapRangeCmpFunc_int_v0.f k a0 a1 a2 a3 a4 a5 a6 a7 a8) (slices_swapRangeCmpFunc_int_v0.f (k + 1) a0 a1 a2 a3 a4 a5 a6 a7 a8) := (slices_swapRangeCmpFunc_int_v0.les k).1

set_option maxRecDepth 100000 in
theorem slices_rotateCmpFunc_int_v0.les (k : Nat) : (∀ a0 a1 a2 a3 a4 a5 a6 a7 a8, Le (slices_rotateCmpFunc_int_v0.f k a0 a1 a2 a3 a4 a5 a6 a7 a8) (slices_rotateCmpFunc_int_v0.f (k + 1) a0 a1 a2 a3 a4 a5 a6 a7 a8)) ∧ (∀ a0 a1 a2 a3 a4 a5 a6 a7 a8, Le (slices_rotateCmpFunc_int_v0.l0 k a0 a1 a2 a3 a4 a5 a6 a7 a8) (slices_rotateCmpFunc_int_v0.l0 (k + 1) a0 a1 a2 a3 a4 a5 a6 a7 a8)) := by
  induction k with
  | zero => exact ⟨fun _ _ _ _ _ _ _ _ _ => Le.none _, fun _ _ _ _ _ _ _ _ _ => Le.none _⟩
  | succ k ih =>
    obtain ⟨h0, h1⟩ := ih
    exact ⟨fun _ _ _ _ _ _ _ _ _ => h1 .., fun _ _ _ _ _ _ _ _ _ => Le.cond (Le.cond (Le.bind (slices_swapRangeCmpFunc_int_v0.le ..) fun _ => h1 ..) (Le.bind (slices_swapRangeCmpFunc_int_v0.le ..) fun _ => h1 ..)) (Le.bind (slices_swapRangeCmpFunc_int_v0.le ..) fun _ => Le.refl _)⟩
set_option maxRecDepth 100000 in
theorem slices_rotateCmpFunc_int_v0.le (k : Nat) : ∀ a0 a1 a2 a3 a4 a5 a6 a7 a8, Le (slices_rotateCmpFunc_int_v0.f k a0 a1 a2 a3 a4 a5 a6 a7 a8) (slices_rotateCmpFunc_int_v0.f (k + 1) a0 a1 a2 a3 a4 a5 a6 a7 a8) := (slices_rotateCmpFunc_int_v0.les k).1

set_option maxRecDepth 100000 in
theorem slices_symMergeCmpFunc_int_v0.les (k : Nat) : (∀ a0 a1 a2 a3 a4 a5 a6 a7 a8, Le (slices_symMergeCmpFunc_int_v0.f k a0 a1 a2 a3 a4 a5 a6 a7 a8) (slices_symMergeCmpFunc_int_v0.f (k + 1) a0 a1 a2 a3 a4 a5 a6 a7 a8)) ∧ (∀ a0 a1 a2 a3 a4 a5 a6 a7 a8, Le (slices_symMergeCmpFunc_int_v0.l0 k a0 a1 a2 a3 a4 a5 a6 a7 a8) (slices_symMergeCmpFunc_int_v0.l0 (k + 1) a0 a1 a2 a3 a4 a5 a6 a7 a8)) ∧ (∀ a0 a1 a2 a3 a4 a5 a6 a7, Le (slices_symMergeCmpFunc_int_v0.l2 k a0 a1 a2 a3 a4 a5 a6 a7) (slices_symMergeCmpFunc_int_v0.l2 (k + 1) a0 a1 a2 a3 a4 a5 a6 a7)) ∧ (∀ a0 a1 a2 a3 a4 a5 a6 a7 a8, Le (slices_symMergeCmpFunc_int_v0.l1 k a0 a1 a2 a3 a4 a5 a6 a7 a8) (slices_symMergeCmpFunc_int_v0.l1 (k + 1) a0 a1 a2 a3 a4 a5 a6 a7 a8)) ∧ (∀ a0 a1 a2 a3 a4 a5 a6 a7, Le (slices_symMergeCmpFunc_int_v0.l3 k a0 a1 a2 a3 a4 a5 a6 a7) (slices_symMergeCmpFunc_int_v0.l3 (k + 1) a0 a1 a2 a3 a4 a5 a6 a7)) ∧ (∀ a0 a1 a2 a3 a4 a5 a6 a7 a8 a9 a10 a11 a12, Le (slices_symMergeCmpFunc_int_v0.j0 k a0 a1 a2 a3 a4 a5 a6 a7 a8 a9 a10 a11 a12) (slices_symMergeCmpFunc_int_v0.j0 (k + 1) a0 a1 a2 a3 a4 a5 a6 a7 a8 a9 a10 a11 a12)) ∧ (∀ a0 a1 a2 a3 a4 a5 a6 a7 a8 a9 a10 a11 a12 a13, Le (slices_symMergeCmpFunc_int_v0.l4 k a0 a1 a2 a3 a4 a5 a6 a7 a8 a9 a10 a11 a12 a13) (slices_symMergeCmpFunc_int_v0.l4 (k + 1) a0 a1 a2 a3 a4 a5 a6 a7 a8 a9 a10 a11 a12 a13)) ∧ (∀ a0 a1 a2 a3 a4 a5 a6 a7 a8 a9 a10, Le (slices_symMergeCmpFunc_int_v0.j1 k a0 a1 a2 a3 a4 a5 a6 a7 a8 a9 a10) (slices_symMergeCmpFunc_int_v0.j1 (k + 1) a0 a1 a2 a3 a4 a5 a6 a7 a8 a9 a10)) ∧ (∀ a0 a1 a2 a3 a4 a5 a6 a7 a8, Le (slices_symMergeCmpFunc_int_v0.j2 k a0 a1 a2 a3 a4 a5 a6 a7 a8) (slices_symMergeCmpFunc_int_v0.j2 (k + 1) a0 a1 a2 a3 a4 a5 a6 a7 a8)) := by
  induction k with
  | zero => exact ⟨fun _ _ _ _ _ _ _ _ _ => Le.none _, fun _ _ _ _ _ _ _ _ _ => Le.none _, fun _ _ _ _ _ _ _ _ => Le.none _, fun _ _ _ _ _ _ _ _ _ => Le.none _, fun _ _ _ _ _ _ _ _ => Le.none _, fun _ _ _ _ _ _ _ _ _ _ _ _ _ => Le.none _, fun _ _ _ _ _ _ _ _ _ _ _ _ _ _ => Le.none _, fun _ _ _ _ _ _ _ _ _ _ _ => Le.none _, fun _ _ _ _ _ _ _ _ _ => Le.none _⟩
  | succ k ih =>
    obtain ⟨h0, h1, h2, h3, h4, h5, h6, h7, h8⟩ := ih
    exact ⟨fun _ _ _ _ _ _ _ _ _ => Le.cond (h1 ..) (Le.cond (h3 ..) ((by first | exact Le.bind (Le.refl _) (fun _ => Le.cond (h5 ..) (h5 ..)) | exact Le.cond (h5 ..) (h5 ..)))), fun _ _ _ _ _ _ _ _ _ => Le.cond ((by first | exact Le.bind (Le.refl _) (fun _ => Le.bind (Le.refl _) fun _ => Le.bind (Le.refl _) fun _ => Le.bind (Le.refl _) fun _ => Le.bind (Le.refl _) fun _ => Le.bind (find_Run_1_v0.le ..) fun _ => Le.cond (h1 ..) (h1 ..)) | exact Le.bind (Le.refl _) fun _ => Le.bind (Le.refl _) fun _ => Le.bind (Le.refl _) fun _ => Le.bind (Le.refl _) fun _ => Le.bind (find_Run_1_v0.le ..) fun _ => Le.cond (h1 ..) (h1 ..))) (h2 ..), fun _ _ _ _ _ _ _ _ => Le.cond (Le.bind (Le.refl _) fun _ => Le.bind (Le.refl _) fun _ => Le.bind (Le.refl _) fun _ => Le.bind (Le.refl _) fun _ => Le.bind (Le.refl _) fun _ => Le.bind (Le.refl _) fun _ => h2 ..) (Le.refl _), fun _ _ _ _ _ _ _ _ _ => Le.cond ((by first | exact Le.bind (Le.refl _) (fun _ => Le.bind (Le.refl _) fun _ => Le.bind (Le.refl _) fun _ => Le.bind (Le.refl _) fun _ => Le.bind (Le.refl _) fun _ => Le.bind (find_Run_1_v0.le ..) fun _ => Le.cond (h3 ..) (h3 ..)) | exact Le.bind (Le.refl _) fun _ => Le.bind (Le.refl _) fun _ => Le.bind (Le.refl _) fun _ => Le.bind (Le.refl _) fun _ => Le.bind (find_Run_1_v0.le ..) fun _ => Le.cond (h3 ..) (h3 ..))) (h4 ..), fun _ _ _ _ _ _ _ _ => Le.cond (Le.bind (Le.refl _) fun _ => Le.bind (Le.refl _) fun _ => Le.bind (Le.refl _) fun _ => Le.bind (Le.refl _) fun _ => Le.bind (Le.refl _) fun _ => Le.bind (Le.refl _) fun _ => h4 ..) (Le.refl _), fun _ _ _ _ _ _ _ _ _ _ _ _ _ => h6 .., fun _ _ _ _ _ _ _ _ _ _ _ _ _ _ => Le.cond ((by first | exact Le.bind (Le.refl _) (fun _ => Le.bind (Le.refl _) fun _ => Le.bind (Le.refl _) fun _ => Le.bind (Le.refl _) fun _ => Le.bind (Le.refl _) fun _ => Le.bind (find_Run_1_v0.le ..) fun _ => Le.cond (h6 ..) (h6 ..)) | exact Le.bind (Le.refl _) fun _ => Le.bind (Le.refl _) fun _ => Le.bind (Le.refl _) fun _ => Le.bind (Le.refl _) fun _ => Le.bind (find_Run_1_v0.le ..) fun _ => Le.cond (h6 ..) (h6 ..))) (Le.cond (Le.cond (Le.bind (slices_rotateCmpFunc_int_v0.le ..) fun _ => h7 ..) (h7 ..)) (h7 ..)), fun _ _ _ _ _ _ _ _ _ _ _ => Le.cond (Le.cond (Le.bind (h0 ..) fun _ => h8 ..) (h8 ..)) (h8 ..), fun _ _ _ _ _ _ _ _ _ => Le.cond (Le.cond (Le.bind (h0 ..) fun _ => Le.refl _) (Le.refl _)) (Le.refl _)⟩
set_option maxRecDepth 100000 in
theorem slices_symMergeCmpFunc_int_v0.le (k : Nat) : ∀ a0 a1 a2 a3 a4 a5 a6 a7 a8, Le (slices_symMergeCmpFunc_int_v0.f k a0 a1 a2 a3 a4 a5 a6 a7 a8) (slices_symMergeCmpFunc_int_v0.f (k + 1) a0 a1 a2 a3 a4 a5 a6 a7 a8) := (slices_symMergeCmpFunc_int_v0.les k).1

set_option maxRecDepth 100000 in
theorem slices_stableCmpFunc_int_v0.les (k : Nat) : (∀ a0 a1 a2 a3 a4 a5 a6, Le (slices_stableCmpFunc_int_v0.f k a0 a1 a2 a3 a4 a5 a6) (slices_stableCmpFunc_int_v0.f (k + 1) a0 a1 a2 a3 a4 a5 a6)) ∧ (∀ a0 a1 a2 a3 a4 a5 a6 a7 a8 a9, Le (slices_stableCmpFunc_int_v0.l0 k a0 a1 a2 a3 a4 a5 a6 a7 a8 a9) (slices_stableCmpFunc_int_v0.l0 (k + 1) a0 a1 a2 a3 a4 a5 a6 a7 a8 a9)) ∧ (∀ a0 a1 a2 a3 a4 a5 a6 a7, Le (slices_stableCmpFunc_int_v0.l1 k a0 a1 a2 a3 a4 a5 a6 a7) (slices_stableCmpFunc_int_v0.l1 (k + 1) a0 a1 a2 a3 a4 a5 a6 a7)) ∧ (∀ a0 a1 a2 a3 a4 a5 a6 a7 a8 a9, Le (slices_stableCmpFunc_int_v0.l2 k a0 a1 a2 a3 a4 a5 a6 a7 a8 a9) (slices_stableCmpFunc_int_v0.l2 (k + 1) a0 a1 a2 a3 a4 a5 a6 a7 a8 a9)) := by
  induction k with
  | zero => exact ⟨fun _ _ _ _ _ _ _ => Le.none _, fun _ _ _ _ _ _ _ _ _ _ => Le.none _, fun _ _ _ _ _ _ _ _ => Le.none _, fun _ _ _ _ _ _ _ _ _ _ => Le.none _⟩
  | succ k ih =>
    obtain ⟨h0, h1, h2, h3⟩ := ih
    exact ⟨fun _ _ _ _ _ _ _ => h1 .., fun _ _ _ _ _ _ _ _ _ _ => Le.cond (Le.bind (slices_insertionSortCmpFunc_int_v0.le ..) fun _ => h1 ..) (Le.bind (slices_insertionSortCmpFunc_int_v0.le ..) fun _ => h2 ..), fun _ _ _ _ _ _ _ _ => Le.cond (h3 ..) (Le.refl _), fun _ _ _ _ _ _ _ _ _ _ => Le.cond (Le.bind (slices_symMergeCmpFunc_int_v0.le ..) fun _ => h3 ..) (Le.cond (Le.bind (slices_symMergeCmpFunc_int_v0.le ..) fun _ => h2 ..) (h2 ..))⟩
set_option maxRecDepth 100000 in
theorem slices_stableCmpFunc_int_v0.le (k : Nat) : ∀ a0 a1 a2 a3 a4 a5 a6, Le (slices_stableCmpFunc_int_v0.f k a0 a1 a2 a3 a4 a5 a6) (slices_stableCmpFunc_int_v0.f (k + 1) a0 a1 a2 a3 a4 a5 a6) := (slices_stableCmpFunc_int_v0.les k).1

set_option maxRecDepth 100000 in
theorem slices_SortStableFunc__int_int_v0.les (k : Nat) : (∀ a0 a1 a2 a3 a4 a5, Le (slices_SortStableFunc__int_int_v0.f k a0 a1 a2 a3 a4 a5) (slices_SortStableFunc__int_int_v0.f (k + 1) a0 a1 a2 a3 a4 a5)) := by
  induction k with
  | zero => exact fun _ _ _ _ _ _ => Le.none _
  | succ k ih =>
    have h0 := ih
    exact fun _ _ _ _ _ _ => Le.bind (slices_stableCmpFunc_int_v0.le ..) fun _ => Le.refl _
set_option maxRecDepth 100000 in
theorem slices_SortStableFunc__int_int_v0.le (k : Nat) : ∀ a0 a1 a2 a3 a4 a5, Le (slices_SortStableFunc__int_int_v0.f k a0 a1 a2 a3 a4 a5) (slices_SortStableFunc__int_int_v0.f (k + 1) a0 a1 a2 a3 a4 a5) := slices_SortStableFunc__int_int_v0.les k

set_option maxRecDepth 100000 in
theorem find_Run.les (k : Nat) : (∀ a0 a1, Le (find_Run.f k a0 a1) (find_Run.f (k + 1) a0 a1)) ∧ (∀ a0 a1 a2 a3 a4 a5 a6 a7 a8, Le (find_Run.l0 k a0 a1 a2 a3 a4 a5 a6 a7 a8) (find_Run.l0 (k + 1) a0 a1 a2 a3 a4 a5 a6 a7 a8)) ∧ (∀ a0 a1 a2 a3 a4 a5 a6 a7 a8 a9 a10 a11 a12 a13 a14 a15, Le (find_Run.l1 k a0 a1 a2 a3 a4 a5 a6 a7 a8 a9 a10 a11 a12 a13 a14 a15) (find_Run.l1 (k + 1) a0 a1 a2 a3 a4 a5 a6 a7 a8 a9 a10 a11 a12 a13 a14 a15)) ∧ (∀ a0 a1 a2 a3 a4, Le (find_Run.j0 k a0 a1 a2 a3 a4) (find_Run.j0 (k + 1) a0 a1 a2 a3 a4)) := by
  induction k with
  | zero => exact ⟨fun _ _ => Le.none _, fun _ _ _ _ _ _ _ _ _ => Le.none _, fun _ _ _ _ _ _ _ _ _ _ _ _ _ _ _ _ => Le.none _, fun _ _ _ _ _ => Le.none _⟩
  | succ k ih =>
    obtain ⟨h0, h1, h2, h3⟩ := ih
    exact ⟨fun _ _ => Le.bind (find_Check.le ..) fun _ => Le.cond (Le.refl _) (h1 ..), fun _ _ _ _ _ _ _ _ _ => Le.cond (Le.bind (Le.refl _) fun _ => h2 ..) (Le.cond (Le.bind (slices_SortStableFunc__int_int_v0.le ..) fun _ => h3 ..) (h3 ..)), fun _ _ _ _ _ _ _ _ _ _ _ _ _ _ _ _ => Le.cond (Le.bind (Le.refl _) fun _ => Le.bind (find_Holds.le ..) fun _ => Le.cond (h1 ..) (h2 ..)) (Le.bind (Le.refl _) fun _ => h1 ..), fun _ _ _ _ _ => Le.refl _⟩
set_option maxRecDepth 100000 in
theorem find_Run.le (k : Nat) : ∀ a0 a1, Le (find_Run.f k a0 a1) (find_Run.f (k + 1) a0 a1) := (find_Run.les k).1

set_option maxRecDepth 100000 in
theorem ask_Run.les (k : Nat) : (∀ a0 a1, Le (ask_Run.f k a0 a1) (ask_Run.f (k + 1) a0 a1)) := by
  induction k with
  | zero => exact fun _ _ => Le.none _
  | succ k ih =>
    have h0 := ih
    exact fun _ _ => Le.bind (ask_Read.le ..) fun _ => Le.cond (Le.refl _) (Le.bind (find_Run.le ..) fun _ => Le.refl _)
set_option maxRecDepth 100000 in
theorem ask_Run.le (k : Nat) : ∀ a0 a1, Le (ask_Run.f k a0 a1) (ask_Run.f (k + 1) a0 a1) := ask_Run.les k

set_option maxRecDepth 100000 in
theorem chartularylaw26_AskRuns.les (k : Nat) : (∀ a0 a1, Le (chartularylaw26_AskRuns.f k a0 a1) (chartularylaw26_AskRuns.f (k + 1) a0 a1)) ∧ (∀ a0 a1 a2 a3 a4 a5 a6, Le (chartularylaw26_AskRuns.l0 k a0 a1 a2 a3 a4 a5 a6) (chartularylaw26_AskRuns.l0 (k + 1) a0 a1 a2 a3 a4 a5 a6)) ∧ (∀ a0 a1 a2 a3 a4 a5 a6 a7, Le (chartularylaw26_AskRuns.j0 k a0 a1 a2 a3 a4 a5 a6 a7) (chartularylaw26_AskRuns.j0 (k + 1) a0 a1 a2 a3 a4 a5 a6 a7)) ∧ (∀ a0 a1, Le (chartularylaw26_AskRuns.j1 k a0 a1) (chartularylaw26_AskRuns.j1 (k + 1) a0 a1)) ∧ (∀ a0 a1 a2, Le (chartularylaw26_AskRuns.l1 k a0 a1 a2) (chartularylaw26_AskRuns.l1 (k + 1) a0 a1 a2)) := by
  induction k with
  | zero => exact ⟨fun _ _ => Le.none _, fun _ _ _ _ _ _ _ => Le.none _, fun _ _ _ _ _ _ _ _ => Le.none _, fun _ _ => Le.none _, fun _ _ _ => Le.none _⟩
  | succ k ih =>
    obtain ⟨h0, h1, h2, h3, h4⟩ := ih
    exact ⟨fun _ _ => Le.bind (chartularylaw26_few.le ..) fun _ => h1 .., fun _ _ _ _ _ _ _ => Le.cond (Le.cond (Le.bind (Le.refl _) fun _ => Le.bind (chartularylaw05_Few.le ..) fun _ => Le.bind (Le.refl _) fun _ => h1 ..) (Le.bind (ask_Print.le ..) fun _ => Le.bind (ask_Run.le ..) fun _ => Le.cond (h2 ..) (h2 ..))) (Le.bind (ask_Print.le ..) fun _ => Le.bind (ask_Run.le ..) fun _ => Le.cond (h2 ..) (h2 ..)), fun _ _ _ _ _ _ _ _ => Le.bind (find_Run.le ..) fun _ => Le.cond (Le.refl _) (Le.cond (Le.refl _) (Le.cond (Le.refl _) (h3 ..))), fun _ _ => h4 .., fun _ _ _ => Le.cond (Le.bind (Le.refl _) fun _ => Le.bind (Le.refl _) fun _ => Le.cond (Le.refl _) (h4 ..)) (Le.bind (chartularylaw26_awake.le ..) fun _ => Le.refl _)⟩
set_option maxRecDepth 100000 in
theorem chartularylaw26_AskRuns.le (k : Nat) : ∀ a0 a1, Le (chartularylaw26_AskRuns.f k a0 a1) (chartularylaw26_AskRuns.f (k + 1) a0 a1) := (chartularylaw26_AskRuns.les k).1

end Go.Proofs.Ytpidgdelfaidoaa.E
