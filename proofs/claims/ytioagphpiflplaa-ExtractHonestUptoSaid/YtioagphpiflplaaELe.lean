/- Laid by gen.py: with more rounds the functions come to the same. -/
import Derived.Test.YtioagphpiflplaaEDefs
namespace Go.Proofs.Ytioagphpiflplaa.E
open Go Go.Proofs.Ytioagphpiflplaa.Eng
set_option linter.unusedVariables false
/-- What the one comes to, the other comes to. -/
structure Le {α : Type} (x y : Option α) : Prop where
  le : ∀ v, x = some v → y = some v
theorem Le.refl {α : Type} (x : Option α) : Le x x := ⟨fun _ h => h⟩
theorem Le.none {α : Type} (y : Option α) : Le none y := ⟨fun _ h => by cases h⟩
theorem Le.bind {α β : Type} {x y : Option α} {g h : α → Option β} (h1 : Le x y) (h2 : ∀ v, Le (g v) (h v)) : Le (x.bind g) (y.bind h) := ⟨fun v hv => by
  cases hx : x with
  | none => rw [hx] at hv; cases hv
  | some w => rw [hx] at hv; rw [h1.le w hx]; exact (h2 w).le v hv⟩
theorem Le.cond {α : Type} {b : Bool} {x y x' y' : Option α} (h1 : Le x x') (h2 : Le y y') : Le (bif b then x else y) (bif b then x' else y') := by cases b; exact h2; exact h1
set_option maxRecDepth 100000 in
theorem chartularylaw21_few.les (k : Nat) : (∀ a0, Le (chartularylaw21_few.f k a0) (chartularylaw21_few.f (k + 1) a0)) := by
  induction k with
  | zero => exact fun _ => Le.none _
  | succ k ih =>
    have h0 := ih
    exact fun _ => Le.refl _
set_option maxRecDepth 100000 in
theorem chartularylaw21_few.le (k : Nat) : ∀ a0, Le (chartularylaw21_few.f k a0) (chartularylaw21_few.f (k + 1) a0) := chartularylaw21_few.les k

set_option maxRecDepth 100000 in
theorem mill_New.les (k : Nat) : (Le (mill_New.f k) (mill_New.f (k + 1))) := by
  induction k with
  | zero => exact Le.none _
  | succ k ih =>
    have h0 := ih
    exact Le.refl _
set_option maxRecDepth 100000 in
theorem mill_New.le (k : Nat) : Le (mill_New.f k) (mill_New.f (k + 1)) := mill_New.les k

set_option maxRecDepth 100000 in
theorem sha_New.les (k : Nat) : (Le (sha_New.f k) (sha_New.f (k + 1))) := by
  induction k with
  | zero => exact Le.none _
  | succ k ih =>
    have h0 := ih
    exact Le.refl _
set_option maxRecDepth 100000 in
theorem sha_New.le (k : Nat) : Le (sha_New.f k) (sha_New.f (k + 1)) := sha_New.les k

set_option maxRecDepth 100000 in
theorem bits_RotateLeft32.les (k : Nat) : (∀ a0 a1, Le (bits_RotateLeft32.f k a0 a1) (bits_RotateLeft32.f (k + 1) a0 a1)) := by
  induction k with
  | zero => exact fun _ _ => Le.none _
  | succ k ih =>
    have h0 := ih
    exact fun _ _ => Le.refl _
set_option maxRecDepth 100000 in
theorem bits_RotateLeft32.le (k : Nat) : ∀ a0 a1, Le (bits_RotateLeft32.f k a0 a1) (bits_RotateLeft32.f (k + 1) a0 a1) := bits_RotateLeft32.les k

set_option maxRecDepth 100000 in
theorem sha_turn.les (k : Nat) : (∀ a0 a1, Le (sha_turn.f k a0 a1) (sha_turn.f (k + 1) a0 a1)) := by
  induction k with
  | zero => exact fun _ _ => Le.none _
  | succ k ih =>
    have h0 := ih
    exact fun _ _ => Le.bind (bits_RotateLeft32.le ..) fun _ => Le.refl _
set_option maxRecDepth 100000 in
theorem sha_turn.le (k : Nat) : ∀ a0 a1, Le (sha_turn.f k a0 a1) (sha_turn.f (k + 1) a0 a1) := sha_turn.les k

set_option maxRecDepth 100000 in
theorem sha_words.les (k : Nat) : (∀ a0, Le (sha_words.f k a0) (sha_words.f (k + 1) a0)) ∧ (∀ a0 a1 a2 a3, Le (sha_words.l0 k a0 a1 a2 a3) (sha_words.l0 (k + 1) a0 a1 a2 a3)) ∧ (∀ a0 a1 a2, Le (sha_words.l1 k a0 a1 a2) (sha_words.l1 (k + 1) a0 a1 a2)) := by
  induction k with
  | zero => exact ⟨fun _ => Le.none _, fun _ _ _ _ => Le.none _, fun _ _ _ => Le.none _⟩
  | succ k ih =>
    obtain ⟨h0, h1, h2⟩ := ih
    exact ⟨fun _ => h1 .., fun _ _ _ _ => Le.cond (Le.bind (Le.refl _) fun _ => Le.bind (Le.refl _) fun _ => Le.bind (Le.refl _) fun _ => Le.bind (Le.refl _) fun _ => Le.bind (Le.refl _) fun _ => Le.bind (Le.refl _) fun _ => Le.bind (Le.refl _) fun _ => Le.bind (Le.refl _) fun _ => h1 ..) (h2 ..), fun _ _ _ => Le.cond (Le.bind (Le.refl _) fun _ => Le.bind (Le.refl _) fun _ => Le.bind (Le.refl _) fun _ => Le.bind (Le.refl _) fun _ => Le.bind (Le.refl _) fun _ => Le.bind (Le.refl _) fun _ => Le.bind (sha_turn.le ..) fun _ => Le.bind (sha_turn.le ..) fun _ => Le.bind (Le.refl _) fun _ => Le.bind (Le.refl _) fun _ => Le.bind (Le.refl _) fun _ => Le.bind (sha_turn.le ..) fun _ => Le.bind (sha_turn.le ..) fun _ => Le.bind (Le.refl _) fun _ => Le.bind (Le.refl _) fun _ => h2 ..) (Le.refl _)⟩
set_option maxRecDepth 100000 in
theorem sha_words.le (k : Nat) : ∀ a0, Le (sha_words.f k a0) (sha_words.f (k + 1) a0) := (sha_words.les k).1

set_option maxRecDepth 100000 in
theorem sha_rounds.les (k : Nat) : (Le (sha_rounds.f k) (sha_rounds.f (k + 1))) := by
  induction k with
  | zero => exact Le.none _
  | succ k ih =>
    have h0 := ih
    exact Le.refl _
set_option maxRecDepth 100000 in
theorem sha_rounds.le (k : Nat) : Le (sha_rounds.f k) (sha_rounds.f (k + 1)) := sha_rounds.les k

set_option maxRecDepth 100000 in
theorem sha_State_mix.les (k : Nat) : (∀ a0 a1 a2 a3 a4, Le (sha_State_mix.f k a0 a1 a2 a3 a4) (sha_State_mix.f (k + 1) a0 a1 a2 a3 a4)) ∧ (∀ a0 a1 a2 a3 a4 a5 a6 a7, Le (sha_State_mix.l0 k a0 a1 a2 a3 a4 a5 a6 a7) (sha_State_mix.l0 (k + 1) a0 a1 a2 a3 a4 a5 a6 a7)) ∧ (∀ a0 a1 a2 a3 a4 a5, Le (sha_State_mix.l1 k a0 a1 a2 a3 a4 a5) (sha_State_mix.l1 (k + 1) a0 a1 a2 a3 a4 a5)) := by
  induction k with
  | zero => exact ⟨fun _ _ _ _ _ => Le.none _, fun _ _ _ _ _ _ _ _ => Le.none _, fun _ _ _ _ _ _ => Le.none _⟩
  | succ k ih =>
    obtain ⟨h0, h1, h2⟩ := ih
    exact ⟨fun _ _ _ _ _ => Le.bind (sha_words.le ..) fun _ => Le.bind (sha_rounds.le ..) fun _ => h1 .., fun _ _ _ _ _ _ _ _ => Le.cond (Le.bind (sha_turn.le ..) fun _ => Le.bind (sha_turn.le ..) fun _ => Le.bind (sha_turn.le ..) fun _ => Le.bind (Le.refl _) fun _ => Le.bind (Le.refl _) fun _ => Le.bind (Le.refl _) fun _ => Le.bind (Le.refl _) fun _ => Le.bind (sha_turn.le ..) fun _ => Le.bind (sha_turn.le ..) fun _ => Le.bind (sha_turn.le ..) fun _ => h1 ..) (h2 ..), fun _ _ _ _ _ _ => Le.cond (Le.bind (Le.refl _) fun _ => Le.bind (Le.refl _) fun _ => Le.bind (Le.refl _) fun _ => Le.bind (Le.refl _) fun _ => Le.bind (Le.refl _) fun _ => h2 ..) (Le.refl _)⟩
set_option maxRecDepth 100000 in
theorem sha_State_mix.le (k : Nat) : ∀ a0 a1 a2 a3 a4, Le (sha_State_mix.f k a0 a1 a2 a3 a4) (sha_State_mix.f (k + 1) a0 a1 a2 a3 a4) := (sha_State_mix.les k).1

set_option maxRecDepth 100000 in
theorem sha_State_Write.les (k : Nat) : (∀ a0 a1 a2 a3 a4, Le (sha_State_Write.f k a0 a1 a2 a3 a4) (sha_State_Write.f (k + 1) a0 a1 a2 a3 a4)) ∧ (∀ a0 a1 a2 a3 a4, Le (sha_State_Write.l0 k a0 a1 a2 a3 a4) (sha_State_Write.l0 (k + 1) a0 a1 a2 a3 a4)) := by
  induction k with
  | zero => exact ⟨fun _ _ _ _ _ => Le.none _, fun _ _ _ _ _ => Le.none _⟩
  | succ k ih =>
    obtain ⟨h0, h1⟩ := ih
    exact ⟨fun _ _ _ _ _ => Le.cond (Le.refl _) (Le.bind (Le.refl _) fun _ => h1 ..), fun _ _ _ _ _ => Le.cond (Le.bind (Le.refl _) fun _ => Le.bind (sha_State_mix.le ..) fun _ => Le.bind (Le.refl _) fun _ => h1 ..) (Le.refl _)⟩
set_option maxRecDepth 100000 in
theorem sha_State_Write.le (k : Nat) : ∀ a0 a1 a2 a3 a4, Le (sha_State_Write.f k a0 a1 a2 a3 a4) (sha_State_Write.f (k + 1) a0 a1 a2 a3 a4) := (sha_State_Write.les k).1

set_option maxRecDepth 100000 in
theorem sha_State_Sum.les (k : Nat) : (∀ a0 a1 a2 a3, Le (sha_State_Sum.f k a0 a1 a2 a3) (sha_State_Sum.f (k + 1) a0 a1 a2 a3)) ∧ (∀ a0 a1 a2 a3 a4 a5 a6 a7 a8, Le (sha_State_Sum.l0 k a0 a1 a2 a3 a4 a5 a6 a7 a8) (sha_State_Sum.l0 (k + 1) a0 a1 a2 a3 a4 a5 a6 a7 a8)) ∧ (∀ a0 a1 a2 a3 a4 a5 a6 a7 a8 a9, Le (sha_State_Sum.l1 k a0 a1 a2 a3 a4 a5 a6 a7 a8 a9) (sha_State_Sum.l1 (k + 1) a0 a1 a2 a3 a4 a5 a6 a7 a8 a9)) ∧ (∀ a0 a1 a2 a3 a4 a5 a6, Le (sha_State_Sum.l2 k a0 a1 a2 a3 a4 a5 a6) (sha_State_Sum.l2 (k + 1) a0 a1 a2 a3 a4 a5 a6)) := by
  induction k with
  | zero => exact ⟨fun _ _ _ _ => Le.none _, fun _ _ _ _ _ _ _ _ _ => Le.none _, fun _ _ _ _ _ _ _ _ _ _ => Le.none _, fun _ _ _ _ _ _ _ => Le.none _⟩
  | succ k ih =>
    obtain ⟨h0, h1, h2, h3⟩ := ih
    exact ⟨fun _ _ _ _ => Le.cond (Le.refl _) (h1 ..), fun _ _ _ _ _ _ _ _ _ => Le.bind (Le.refl _) fun _ => Le.cond (Le.bind (Le.refl _) fun _ => h1 ..) (h2 ..), fun _ _ _ _ _ _ _ _ _ _ => Le.cond (Le.bind (Le.refl _) fun _ => Le.bind (Le.refl _) fun _ => h2 ..) (Le.bind (sha_State_Write.le ..) fun _ => h3 ..), fun _ _ _ _ _ _ _ => Le.cond (Le.bind (Le.refl _) fun _ => Le.bind (Le.refl _) fun _ => Le.bind (Le.refl _) fun _ => Le.bind (Le.refl _) fun _ => Le.bind (Le.refl _) fun _ => h3 ..) (Le.refl _)⟩
set_option maxRecDepth 100000 in
theorem sha_State_Sum.le (k : Nat) : ∀ a0 a1 a2 a3, Le (sha_State_Sum.f k a0 a1 a2 a3) (sha_State_Sum.f (k + 1) a0 a1 a2 a3) := (sha_State_Sum.les k).1

set_option maxRecDepth 100000 in
theorem sha_Sum.les (k : Nat) : (∀ a0, Le (sha_Sum.f k a0) (sha_Sum.f (k + 1) a0)) := by
  induction k with
  | zero => exact fun _ => Le.none _
  | succ k ih =>
    have h0 := ih
    exact fun _ => Le.bind (sha_New.le ..) fun _ => Le.bind (sha_State_Write.le ..) fun _ => Le.bind (sha_State_Sum.le ..) fun _ => Le.refl _
set_option maxRecDepth 100000 in
theorem sha_Sum.le (k : Nat) : ∀ a0, Le (sha_Sum.f k a0) (sha_Sum.f (k + 1) a0) := sha_Sum.les k

set_option maxRecDepth 100000 in
theorem mill_name.les (k : Nat) : (∀ a0 a1 a2, Le (mill_name.f k a0 a1 a2) (mill_name.f (k + 1) a0 a1 a2)) := by
  induction k with
  | zero => exact fun _ _ _ => Le.none _
  | succ k ih =>
    have h0 := ih
    exact fun _ _ _ => Le.cond (Le.bind (Le.refl _) fun _ => Le.refl _) (Le.bind (sha_Sum.le ..) fun _ => Le.bind (Le.refl _) fun _ => Le.bind (Le.refl _) fun _ => Le.refl _)
set_option maxRecDepth 100000 in
theorem mill_name.le (k : Nat) : ∀ a0 a1 a2, Le (mill_name.f k a0 a1 a2) (mill_name.f (k + 1) a0 a1 a2) := mill_name.les k

set_option maxRecDepth 100000 in
theorem mill_With_has.les (k : Nat) : (∀ a0, Le (mill_With_has.f k a0) (mill_With_has.f (k + 1) a0)) ∧ (∀ a0 a1 a2 a3 a4 a5 a6 a7 a8, Le (mill_With_has.l0 k a0 a1 a2 a3 a4 a5 a6 a7 a8) (mill_With_has.l0 (k + 1) a0 a1 a2 a3 a4 a5 a6 a7 a8)) := by
  induction k with
  | zero => exact ⟨fun _ => Le.none _, fun _ _ _ _ _ _ _ _ _ => Le.none _⟩
  | succ k ih =>
    obtain ⟨h0, h1⟩ := ih
    exact ⟨fun _ => Le.bind (mill_New.le ..) fun _ => h1 .., fun _ _ _ _ _ _ _ _ _ => Le.cond (Le.bind (Le.refl _) fun _ => Le.cond (Le.refl _) (Le.bind (mill_name.le ..) fun _ => Le.cond (h1 ..) (h1 ..))) (Le.refl _)⟩
set_option maxRecDepth 100000 in
theorem mill_With_has.le (k : Nat) : ∀ a0, Le (mill_With_has.f k a0) (mill_With_has.f (k + 1) a0) := (mill_With_has.les k).1

set_option maxRecDepth 100000 in
theorem mill_With_nil.les (k : Nat) : (∀ a0, Le (mill_With_nil.f k a0) (mill_With_nil.f (k + 1) a0)) ∧ (∀ a0 a1 a2 a3 a4 a5 a6 a7 a8, Le (mill_With_nil.l0 k a0 a1 a2 a3 a4 a5 a6 a7 a8) (mill_With_nil.l0 (k + 1) a0 a1 a2 a3 a4 a5 a6 a7 a8)) := by
  induction k with
  | zero => exact ⟨fun _ => Le.none _, fun _ _ _ _ _ _ _ _ _ => Le.none _⟩
  | succ k ih =>
    obtain ⟨h0, h1⟩ := ih
    exact ⟨fun _ => Le.bind (mill_New.le ..) fun _ => h1 .., fun _ _ _ _ _ _ _ _ _ => Le.cond (Le.bind (Le.refl _) fun _ => Le.cond (Le.refl _) (Le.bind (mill_name.le ..) fun _ => Le.cond (h1 ..) (h1 ..))) (Le.refl _)⟩
set_option maxRecDepth 100000 in
theorem mill_With_nil.le (k : Nat) : ∀ a0, Le (mill_With_nil.f k a0) (mill_With_nil.f (k + 1) a0) := (mill_With_nil.les k).1

set_option maxRecDepth 100000 in
theorem octet_Read.les (k : Nat) : (∀ a0, Le (octet_Read.f k a0) (octet_Read.f (k + 1) a0)) := by
  induction k with
  | zero => exact fun _ => Le.none _
  | succ k ih =>
    have h0 := ih
    exact fun _ => Le.refl _
set_option maxRecDepth 100000 in
theorem octet_Read.le (k : Nat) : ∀ a0, Le (octet_Read.f k a0) (octet_Read.f (k + 1) a0) := octet_Read.les k

set_option maxRecDepth 100000 in
theorem octet_Reader_Err.les (k : Nat) : (∀ a0 a1 a2, Le (octet_Reader_Err.f k a0 a1 a2) (octet_Reader_Err.f (k + 1) a0 a1 a2)) := by
  induction k with
  | zero => exact fun _ _ _ => Le.none _
  | succ k ih =>
    have h0 := ih
    exact fun _ _ _ => Le.refl _
set_option maxRecDepth 100000 in
theorem octet_Reader_Err.le (k : Nat) : ∀ a0 a1 a2, Le (octet_Reader_Err.f k a0 a1 a2) (octet_Reader_Err.f (k + 1) a0 a1 a2) := octet_Reader_Err.les k

set_option maxRecDepth 100000 in
theorem octet_Reader_Fail.les (k : Nat) : (∀ a0 a1 a2 a3, Le (octet_Reader_Fail.f k a0 a1 a2 a3) (octet_Reader_Fail.f (k + 1) a0 a1 a2 a3)) := by
  induction k with
  | zero => exact fun _ _ _ _ => Le.none _
  | succ k ih =>
    have h0 := ih
    exact fun _ _ _ _ => Le.refl _
set_option maxRecDepth 100000 in
theorem octet_Reader_Fail.le (k : Nat) : ∀ a0 a1 a2 a3, Le (octet_Reader_Fail.f k a0 a1 a2 a3) (octet_Reader_Fail.f (k + 1) a0 a1 a2 a3) := octet_Reader_Fail.les k

set_option maxRecDepth 100000 in
theorem octet_Reader_Raw.les (k : Nat) : (∀ a0 a1 a2 a3, Le (octet_Reader_Raw.f k a0 a1 a2 a3) (octet_Reader_Raw.f (k + 1) a0 a1 a2 a3)) := by
  induction k with
  | zero => exact fun _ _ _ _ => Le.none _
  | succ k ih =>
    have h0 := ih
    exact fun _ _ _ _ => Le.bind (octet_Reader_Err.le ..) fun _ => Le.cond (Le.refl _) (Le.cond (Le.bind (octet_Reader_Fail.le ..) fun _ => Le.refl _) (Le.cond (Le.bind (octet_Reader_Fail.le ..) fun _ => Le.refl _) (Le.bind (Le.refl _) fun _ => Le.refl _)))
set_option maxRecDepth 100000 in
theorem octet_Reader_Raw.le (k : Nat) : ∀ a0 a1 a2 a3, Le (octet_Reader_Raw.f k a0 a1 a2 a3) (octet_Reader_Raw.f (k + 1) a0 a1 a2 a3) := octet_Reader_Raw.les k

set_option maxRecDepth 100000 in
theorem octet_Reader_Num.les (k : Nat) : (∀ a0 a1 a2 a3, Le (octet_Reader_Num.f k a0 a1 a2 a3) (octet_Reader_Num.f (k + 1) a0 a1 a2 a3)) ∧ (∀ a0 a1 a2 a3 a4 a5 a6 a7, Le (octet_Reader_Num.l0 k a0 a1 a2 a3 a4 a5 a6 a7) (octet_Reader_Num.l0 (k + 1) a0 a1 a2 a3 a4 a5 a6 a7)) := by
  induction k with
  | zero => exact ⟨fun _ _ _ _ => Le.none _, fun _ _ _ _ _ _ _ _ => Le.none _⟩
  | succ k ih =>
    obtain ⟨h0, h1⟩ := ih
    exact ⟨fun _ _ _ _ => Le.bind (octet_Reader_Raw.le ..) fun _ => Le.cond (Le.refl _) (Le.bind (Le.refl _) fun _ => Le.cond (Le.bind (octet_Reader_Fail.le ..) fun _ => Le.refl _) (Le.bind (octet_Reader_Raw.le ..) fun _ => h1 ..)), fun _ _ _ _ _ _ _ _ => Le.cond (Le.bind (Le.refl _) fun _ => Le.cond (Le.cond (Le.bind (octet_Reader_Fail.le ..) fun _ => Le.refl _) (Le.bind (Le.refl _) fun _ => h1 ..)) (Le.bind (Le.refl _) fun _ => h1 ..)) (Le.bind (octet_Reader_Err.le ..) fun _ => Le.cond (Le.refl _) (Le.cond (Le.bind (octet_Reader_Fail.le ..) fun _ => Le.refl _) (Le.refl _)))⟩
set_option maxRecDepth 100000 in
theorem octet_Reader_Num.le (k : Nat) : ∀ a0 a1 a2 a3, Le (octet_Reader_Num.f k a0 a1 a2 a3) (octet_Reader_Num.f (k + 1) a0 a1 a2 a3) := (octet_Reader_Num.les k).1

set_option maxRecDepth 100000 in
theorem octet_Reader_Text.les (k : Nat) : (∀ a0 a1 a2 a3, Le (octet_Reader_Text.f k a0 a1 a2 a3) (octet_Reader_Text.f (k + 1) a0 a1 a2 a3)) := by
  induction k with
  | zero => exact fun _ _ _ _ => Le.none _
  | succ k ih =>
    have h0 := ih
    exact fun _ _ _ _ => Le.bind (octet_Reader_Num.le ..) fun _ => Le.bind (octet_Reader_Raw.le ..) fun _ => Le.refl _
set_option maxRecDepth 100000 in
theorem octet_Reader_Text.le (k : Nat) : ∀ a0 a1 a2 a3, Le (octet_Reader_Text.f k a0 a1 a2 a3) (octet_Reader_Text.f (k + 1) a0 a1 a2 a3) := octet_Reader_Text.les k

set_option maxRecDepth 100000 in
theorem octet_Reader_Flag.les (k : Nat) : (∀ a0 a1 a2, Le (octet_Reader_Flag.f k a0 a1 a2) (octet_Reader_Flag.f (k + 1) a0 a1 a2)) := by
  induction k with
  | zero => exact fun _ _ _ => Le.none _
  | succ k ih =>
    have h0 := ih
    exact fun _ _ _ => Le.bind (octet_Reader_Raw.le ..) fun _ => Le.cond (Le.bind (octet_Reader_Fail.le ..) fun _ => Le.refl _) (Le.refl _)
set_option maxRecDepth 100000 in
theorem octet_Reader_Flag.le (k : Nat) : ∀ a0 a1 a2, Le (octet_Reader_Flag.f k a0 a1 a2) (octet_Reader_Flag.f (k + 1) a0 a1 a2) := octet_Reader_Flag.les k

set_option maxRecDepth 100000 in
theorem proof_readItem.les (k : Nat) : (∀ a0 a1 a2, Le (proof_readItem.f k a0 a1 a2) (proof_readItem.f (k + 1) a0 a1 a2)) := by
  induction k with
  | zero => exact fun _ _ _ => Le.none _
  | succ k ih =>
    have h0 := ih
    exact fun _ _ _ => Le.bind (octet_Reader_Num.le ..) fun _ => Le.bind (octet_Reader_Text.le ..) fun _ => Le.bind (octet_Reader_Flag.le ..) fun _ => Le.cond (Le.bind (octet_Reader_Text.le ..) fun _ => Le.refl _) (Le.bind (octet_Reader_Text.le ..) fun _ => Le.bind (octet_Reader_Text.le ..) fun _ => Le.refl _)
set_option maxRecDepth 100000 in
theorem proof_readItem.le (k : Nat) : ∀ a0 a1 a2, Le (proof_readItem.f k a0 a1 a2) (proof_readItem.f (k + 1) a0 a1 a2) := proof_readItem.les k

set_option maxRecDepth 100000 in
theorem octet_Reader_Texts.les (k : Nat) : (∀ a0 a1 a2 a3 a4, Le (octet_Reader_Texts.f k a0 a1 a2 a3 a4) (octet_Reader_Texts.f (k + 1) a0 a1 a2 a3 a4)) ∧ (∀ a0 a1 a2 a3 a4 a5 a6, Le (octet_Reader_Texts.l0 k a0 a1 a2 a3 a4 a5 a6) (octet_Reader_Texts.l0 (k + 1) a0 a1 a2 a3 a4 a5 a6)) := by
  induction k with
  | zero => exact ⟨fun _ _ _ _ _ => Le.none _, fun _ _ _ _ _ _ _ => Le.none _⟩
  | succ k ih =>
    obtain ⟨h0, h1⟩ := ih
    exact ⟨fun _ _ _ _ _ => Le.bind (octet_Reader_Num.le ..) fun _ => h1 .., fun _ _ _ _ _ _ _ => Le.cond (Le.bind (octet_Reader_Text.le ..) fun _ => Le.bind (octet_Reader_Err.le ..) fun _ => Le.cond (Le.refl _) (Le.bind (Le.refl _) fun _ => h1 ..)) (Le.refl _)⟩
set_option maxRecDepth 100000 in
theorem octet_Reader_Texts.le (k : Nat) : ∀ a0 a1 a2 a3 a4, Le (octet_Reader_Texts.f k a0 a1 a2 a3 a4) (octet_Reader_Texts.f (k + 1) a0 a1 a2 a3 a4) := (octet_Reader_Texts.les k).1

set_option maxRecDepth 100000 in
theorem octet_Reader_Left.les (k : Nat) : (∀ a0 a1 a2, Le (octet_Reader_Left.f k a0 a1 a2) (octet_Reader_Left.f (k + 1) a0 a1 a2)) := by
  induction k with
  | zero => exact fun _ _ _ => Le.none _
  | succ k ih =>
    have h0 := ih
    exact fun _ _ _ => Le.bind (octet_Reader_Err.le ..) fun _ => Le.cond (Le.refl _) (Le.refl _)
set_option maxRecDepth 100000 in
theorem octet_Reader_Left.le (k : Nat) : ∀ a0 a1 a2, Le (octet_Reader_Left.f k a0 a1 a2) (octet_Reader_Left.f (k + 1) a0 a1 a2) := octet_Reader_Left.les k

set_option maxRecDepth 100000 in
theorem octet_Reader_End.les (k : Nat) : (∀ a0 a1 a2, Le (octet_Reader_End.f k a0 a1 a2) (octet_Reader_End.f (k + 1) a0 a1 a2)) := by
  induction k with
  | zero => exact fun _ _ _ => Le.none _
  | succ k ih =>
    have h0 := ih
    exact fun _ _ _ => Le.bind (octet_Reader_Left.le ..) fun _ => Le.cond (Le.bind (octet_Reader_Fail.le ..) fun _ => Le.bind (octet_Reader_Err.le ..) fun _ => Le.refl _) (Le.bind (octet_Reader_Err.le ..) fun _ => Le.refl _)
set_option maxRecDepth 100000 in
theorem octet_Reader_End.le (k : Nat) : ∀ a0 a1 a2, Le (octet_Reader_End.f k a0 a1 a2) (octet_Reader_End.f (k + 1) a0 a1 a2) := octet_Reader_End.les k

set_option maxRecDepth 100000 in
theorem paper_sign.les (k : Nat) : (∀ a0, Le (paper_sign.f k a0) (paper_sign.f (k + 1) a0)) := by
  induction k with
  | zero => exact fun _ => Le.none _
  | succ k ih =>
    have h0 := ih
    exact fun _ => Le.refl _
set_option maxRecDepth 100000 in
theorem paper_sign.le (k : Nat) : ∀ a0, Le (paper_sign.f k a0) (paper_sign.f (k + 1) a0) := paper_sign.les k

set_option maxRecDepth 100000 in
theorem paper_word.les (k : Nat) : (∀ a0 a1, Le (paper_word.f k a0 a1) (paper_word.f (k + 1) a0 a1)) ∧ (∀ a0, Le (paper_word.j0 k a0) (paper_word.j0 (k + 1) a0)) ∧ (∀ a0 a1 a2, Le (paper_word.l0 k a0 a1 a2) (paper_word.l0 (k + 1) a0 a1 a2)) := by
  induction k with
  | zero => exact ⟨fun _ _ => Le.none _, fun _ => Le.none _, fun _ _ _ => Le.none _⟩
  | succ k ih =>
    obtain ⟨h0, h1, h2⟩ := ih
    exact ⟨fun _ _ => Le.cond (Le.refl _) (Le.cond (Le.refl _) (h1 ..)), fun _ => h2 .., fun _ _ _ => Le.cond (Le.bind (Le.refl _) fun _ => Le.bind (paper_sign.le ..) fun _ => Le.cond (Le.refl _) (h2 ..)) (Le.refl _)⟩
set_option maxRecDepth 100000 in
theorem paper_word.le (k : Nat) : ∀ a0 a1, Le (paper_word.f k a0 a1) (paper_word.f (k + 1) a0 a1) := (paper_word.les k).1

set_option maxRecDepth 100000 in
theorem paper_IsID.les (k : Nat) : (∀ a0, Le (paper_IsID.f k a0) (paper_IsID.f (k + 1) a0)) := by
  induction k with
  | zero => exact fun _ => Le.none _
  | succ k ih =>
    have h0 := ih
    exact fun _ => Le.bind (paper_word.le ..) fun _ => Le.refl _
set_option maxRecDepth 100000 in
theorem paper_IsID.le (k : Nat) : ∀ a0, Le (paper_IsID.f k a0) (paper_IsID.f (k + 1) a0) := paper_IsID.les k

set_option maxRecDepth 100000 in
theorem paper_IsName.les (k : Nat) : (∀ a0, Le (paper_IsName.f k a0) (paper_IsName.f (k + 1) a0)) := by
  induction k with
  | zero => exact fun _ => Le.none _
  | succ k ih =>
    have h0 := ih
    exact fun _ => Le.bind (paper_word.le ..) fun _ => Le.refl _
set_option maxRecDepth 100000 in
theorem paper_IsName.le (k : Nat) : ∀ a0, Le (paper_IsName.f k a0) (paper_IsName.f (k + 1) a0) := paper_IsName.les k

set_option maxRecDepth 100000 in
theorem proof_rightItem.les (k : Nat) : (∀ a0 a1, Le (proof_rightItem.f k a0 a1) (proof_rightItem.f (k + 1) a0 a1)) ∧ (∀ a0 a1 a2 a3 a4 a5 a6, Le (proof_rightItem.j0 k a0 a1 a2 a3 a4 a5 a6) (proof_rightItem.j0 (k + 1) a0 a1 a2 a3 a4 a5 a6)) := by
  induction k with
  | zero => exact ⟨fun _ _ => Le.none _, fun _ _ _ _ _ _ _ => Le.none _⟩
  | succ k ih =>
    obtain ⟨h0, h1⟩ := ih
    exact ⟨fun _ _ => Le.cond (h1 ..) (Le.cond (h1 ..) (Le.bind (paper_IsName.le ..) fun _ => h1 ..)), fun _ _ _ _ _ _ _ => Le.refl _⟩
set_option maxRecDepth 100000 in
theorem proof_rightItem.le (k : Nat) : ∀ a0 a1, Le (proof_rightItem.f k a0 a1) (proof_rightItem.f (k + 1) a0 a1) := (proof_rightItem.les k).1

set_option maxRecDepth 100000 in
theorem proof_sums.les (k : Nat) : (∀ a0 a1, Le (proof_sums.f k a0 a1) (proof_sums.f (k + 1) a0 a1)) ∧ (∀ a0 a1 a2 a3 a4, Le (proof_sums.l0 k a0 a1 a2 a3 a4) (proof_sums.l0 (k + 1) a0 a1 a2 a3 a4)) := by
  induction k with
  | zero => exact ⟨fun _ _ => Le.none _, fun _ _ _ _ _ => Le.none _⟩
  | succ k ih =>
    obtain ⟨h0, h1⟩ := ih
    exact ⟨fun _ _ => h1 .., fun _ _ _ _ _ => Le.cond (Le.bind (Le.refl _) fun _ => Le.cond (Le.refl _) (h1 ..)) (Le.refl _)⟩
set_option maxRecDepth 100000 in
theorem proof_sums.le (k : Nat) : ∀ a0 a1, Le (proof_sums.f k a0 a1) (proof_sums.f (k + 1) a0 a1) := (proof_sums.les k).1

set_option maxRecDepth 100000 in
theorem proof_Right.les (k : Nat) : (∀ a0, Le (proof_Right.f k a0) (proof_Right.f (k + 1) a0)) ∧ (∀ a0 a1 a2 a3 a4 a5 a6 a7 a8, Le (proof_Right.j0 k a0 a1 a2 a3 a4 a5 a6 a7 a8) (proof_Right.j0 (k + 1) a0 a1 a2 a3 a4 a5 a6 a7 a8)) ∧ (∀ a0 a1 a2 a3 a4 a5 a6 a7 a8 a9 a10 a11, Le (proof_Right.l0 k a0 a1 a2 a3 a4 a5 a6 a7 a8 a9 a10 a11) (proof_Right.l0 (k + 1) a0 a1 a2 a3 a4 a5 a6 a7 a8 a9 a10 a11)) := by
  induction k with
  | zero => exact ⟨fun _ => Le.none _, fun _ _ _ _ _ _ _ _ _ => Le.none _, fun _ _ _ _ _ _ _ _ _ _ _ _ => Le.none _⟩
  | succ k ih =>
    obtain ⟨h0, h1, h2⟩ := ih
    exact ⟨fun _ => Le.bind (paper_IsID.le ..) fun _ => Le.cond (Le.refl _) (Le.cond (Le.refl _) (Le.cond (Le.refl _) (Le.cond (Le.refl _) (Le.cond (Le.refl _) (Le.cond (Le.refl _) (Le.cond (Le.refl _) (Le.cond (Le.refl _) (Le.cond (Le.refl _) (Le.cond (Le.refl _) (Le.cond (Le.refl _) (Le.cond (Le.refl _) (Le.cond (Le.refl _) (h1 ..))))))))))))), fun _ _ _ _ _ _ _ _ _ => h2 .., fun _ _ _ _ _ _ _ _ _ _ _ _ => Le.cond (Le.bind (Le.refl _) fun _ => Le.bind (proof_rightItem.le ..) fun _ => Le.cond (Le.refl _) (Le.cond (Le.bind (Le.refl _) fun _ => Le.cond (Le.refl _) (Le.bind (Le.refl _) fun _ => Le.cond (Le.refl _) (h2 ..))) (h2 ..))) (Le.bind (proof_sums.le ..) fun _ => Le.cond (Le.bind (proof_sums.le ..) fun _ => Le.refl _) (Le.refl _))⟩
set_option maxRecDepth 100000 in
theorem proof_Right.le (k : Nat) : ∀ a0, Le (proof_Right.f k a0) (proof_Right.f (k + 1) a0) := (proof_Right.les k).1

set_option maxRecDepth 100000 in
theorem proof_Read.les (k : Nat) : (∀ a0, Le (proof_Read.f k a0) (proof_Read.f (k + 1) a0)) ∧ (∀ a0 a1 a2 a3 a4 a5 a6 a7 a8 a9 a10 a11 a12 a13 a14 a15 a16 a17 a18 a19 a20 a21 a22, Le (proof_Read.l0 k a0 a1 a2 a3 a4 a5 a6 a7 a8 a9 a10 a11 a12 a13 a14 a15 a16 a17 a18 a19 a20 a21 a22) (proof_Read.l0 (k + 1) a0 a1 a2 a3 a4 a5 a6 a7 a8 a9 a10 a11 a12 a13 a14 a15 a16 a17 a18 a19 a20 a21 a22)) ∧ (∀ a0 a1 a2 a3 a4 a5 a6 a7 a8 a9 a10 a11 a12 a13 a14 a15 a16 a17 a18 a19 a20, Le (proof_Read.j0 k a0 a1 a2 a3 a4 a5 a6 a7 a8 a9 a10 a11 a12 a13 a14 a15 a16 a17 a18 a19 a20) (proof_Read.j0 (k + 1) a0 a1 a2 a3 a4 a5 a6 a7 a8 a9 a10 a11 a12 a13 a14 a15 a16 a17 a18 a19 a20)) := by
  induction k with
  | zero => exact ⟨fun _ => Le.none _, fun _ _ _ _ _ _ _ _ _ _ _ _ _ _ _ _ _ _ _ _ _ _ _ => Le.none _, fun _ _ _ _ _ _ _ _ _ _ _ _ _ _ _ _ _ _ _ _ _ => Le.none _⟩
  | succ k ih =>
    obtain ⟨h0, h1, h2⟩ := ih
    exact ⟨fun _ => Le.bind (octet_Read.le ..) fun _ => Le.bind (octet_Reader_Text.le ..) fun _ => Le.bind (octet_Reader_Num.le ..) fun _ => Le.bind (octet_Reader_Num.le ..) fun _ => Le.bind (octet_Reader_Num.le ..) fun _ => Le.bind (octet_Reader_Num.le ..) fun _ => h1 .., fun _ _ _ _ _ _ _ _ _ _ _ _ _ _ _ _ _ _ _ _ _ _ _ => Le.cond (Le.bind (proof_readItem.le ..) fun _ => Le.bind (octet_Reader_Err.le ..) fun _ => Le.cond (h2 ..) (Le.bind (Le.refl _) fun _ => h1 ..)) (h2 ..), fun _ _ _ _ _ _ _ _ _ _ _ _ _ _ _ _ _ _ _ _ _ => Le.bind (octet_Reader_Texts.le ..) fun _ => Le.bind (octet_Reader_Num.le ..) fun _ => Le.bind (octet_Reader_Num.le ..) fun _ => Le.bind (octet_Reader_Texts.le ..) fun _ => Le.bind (octet_Reader_End.le ..) fun _ => Le.cond (Le.refl _) (Le.bind (proof_Right.le ..) fun _ => Le.cond (Le.refl _) (Le.refl _))⟩
set_option maxRecDepth 100000 in
theorem proof_Read.le (k : Nat) : ∀ a0, Le (proof_Read.f k a0) (proof_Read.f (k + 1) a0) := (proof_Read.les k).1

set_option maxRecDepth 100000 in
theorem mill_Mill_none.les (k : Nat) : (∀ a0 a1 a2 a3 a4 a5, Le (mill_Mill_none.f k a0 a1 a2 a3 a4 a5) (mill_Mill_none.f (k + 1) a0 a1 a2 a3 a4 a5)) := by
  induction k with
  | zero => exact fun _ _ _ _ _ _ => Le.none _
  | succ k ih =>
    have h0 := ih
    exact fun _ _ _ _ _ _ => Le.refl _
set_option maxRecDepth 100000 in
theorem mill_Mill_none.le (k : Nat) : ∀ a0 a1 a2 a3 a4 a5, Le (mill_Mill_none.f k a0 a1 a2 a3 a4 a5) (mill_Mill_none.f (k + 1) a0 a1 a2 a3 a4 a5) := mill_Mill_none.les k

set_option maxRecDepth 100000 in
theorem mill_Mill_note.les (k : Nat) : (∀ a0 a1 a2 a3 a4 a5 a6 a7, Le (mill_Mill_note.f k a0 a1 a2 a3 a4 a5 a6 a7) (mill_Mill_note.f (k + 1) a0 a1 a2 a3 a4 a5 a6 a7)) := by
  induction k with
  | zero => exact fun _ _ _ _ _ _ _ _ => Le.none _
  | succ k ih =>
    have h0 := ih
    exact fun _ _ _ _ _ _ _ _ => Le.refl _
set_option maxRecDepth 100000 in
theorem mill_Mill_note.le (k : Nat) : ∀ a0 a1 a2 a3 a4 a5 a6 a7, Le (mill_Mill_note.f k a0 a1 a2 a3 a4 a5 a6 a7) (mill_Mill_note.f (k + 1) a0 a1 a2 a3 a4 a5 a6 a7) := mill_Mill_note.les k

set_option maxRecDepth 100000 in
theorem mill_Mill_Sum.les (k : Nat) : (∀ a0 a1 a2 a3 a4 a5 a6, Le (mill_Mill_Sum.f k a0 a1 a2 a3 a4 a5 a6) (mill_Mill_Sum.f (k + 1) a0 a1 a2 a3 a4 a5 a6)) := by
  induction k with
  | zero => exact fun _ _ _ _ _ _ _ => Le.none _
  | succ k ih =>
    have h0 := ih
    exact fun _ _ _ _ _ _ _ => Le.bind (mill_Mill_none.le ..) fun _ => Le.cond (Le.refl _) (Le.bind (mill_name.le ..) fun _ => Le.cond (Le.bind (sha_Sum.le ..) fun _ => Le.bind (mill_Mill_note.le ..) fun _ => Le.refl _) (Le.bind (mill_Mill_note.le ..) fun _ => Le.refl _))
set_option maxRecDepth 100000 in
theorem mill_Mill_Sum.le (k : Nat) : ∀ a0 a1 a2 a3 a4 a5 a6, Le (mill_Mill_Sum.f k a0 a1 a2 a3 a4 a5 a6) (mill_Mill_Sum.f (k + 1) a0 a1 a2 a3 a4 a5 a6) := mill_Mill_Sum.les k

set_option maxRecDepth 100000 in
theorem octet_Num.les (k : Nat) : (∀ a0, Le (octet_Num.f k a0) (octet_Num.f (k + 1) a0)) ∧ (∀ a0 a1, Le (octet_Num.l0 k a0 a1) (octet_Num.l0 (k + 1) a0 a1)) := by
  induction k with
  | zero => exact ⟨fun _ => Le.none _, fun _ _ => Le.none _⟩
  | succ k ih =>
    obtain ⟨h0, h1⟩ := ih
    exact ⟨fun _ => Le.cond (Le.refl _) (Le.cond (Le.refl _) (h1 ..)), fun _ _ => Le.cond (Le.bind (Le.refl _) fun _ => Le.bind (Le.refl _) fun _ => h1 ..) (Le.bind (Le.refl _) fun _ => Le.refl _)⟩
set_option maxRecDepth 100000 in
theorem octet_Num.le (k : Nat) : ∀ a0, Le (octet_Num.f k a0) (octet_Num.f (k + 1) a0) := (octet_Num.les k).1

set_option maxRecDepth 100000 in
theorem octet_Text.les (k : Nat) : (∀ a0, Le (octet_Text.f k a0) (octet_Text.f (k + 1) a0)) := by
  induction k with
  | zero => exact fun _ => Le.none _
  | succ k ih =>
    have h0 := ih
    exact fun _ => Le.bind (octet_Num.le ..) fun _ => Le.bind (Le.refl _) fun _ => Le.refl _
set_option maxRecDepth 100000 in
theorem octet_Text.le (k : Nat) : ∀ a0, Le (octet_Text.f k a0) (octet_Text.f (k + 1) a0) := octet_Text.les k

set_option maxRecDepth 100000 in
theorem pledge_Of.les (k : Nat) : (∀ a0 a1 a2 a3 a4 a5 a6 a7 a8 a9, Le (pledge_Of.f k a0 a1 a2 a3 a4 a5 a6 a7 a8 a9) (pledge_Of.f (k + 1) a0 a1 a2 a3 a4 a5 a6 a7 a8 a9)) := by
  induction k with
  | zero => exact fun _ _ _ _ _ _ _ _ _ _ => Le.none _
  | succ k ih =>
    have h0 := ih
    exact fun _ _ _ _ _ _ _ _ _ _ => Le.bind (octet_Text.le ..) fun _ => Le.bind (Le.refl _) fun _ => Le.bind (octet_Text.le ..) fun _ => Le.bind (Le.refl _) fun _ => Le.bind (octet_Text.le ..) fun _ => Le.bind (Le.refl _) fun _ => Le.bind (octet_Text.le ..) fun _ => Le.bind (Le.refl _) fun _ => Le.bind (mill_Mill_Sum.le ..) fun _ => Le.refl _
set_option maxRecDepth 100000 in
theorem pledge_Of.le (k : Nat) : ∀ a0 a1 a2 a3 a4 a5 a6 a7 a8 a9, Le (pledge_Of.f k a0 a1 a2 a3 a4 a5 a6 a7 a8 a9) (pledge_Of.f (k + 1) a0 a1 a2 a3 a4 a5 a6 a7 a8 a9) := pledge_Of.les k

set_option maxRecDepth 100000 in
theorem octet_Writer_Text.les (k : Nat) : (∀ a0 a1 a2, Le (octet_Writer_Text.f k a0 a1 a2) (octet_Writer_Text.f (k + 1) a0 a1 a2)) := by
  induction k with
  | zero => exact fun _ _ _ => Le.none _
  | succ k ih =>
    have h0 := ih
    exact fun _ _ _ => Le.bind (octet_Text.le ..) fun _ => Le.bind (Le.refl _) fun _ => Le.refl _
set_option maxRecDepth 100000 in
theorem octet_Writer_Text.le (k : Nat) : ∀ a0 a1 a2, Le (octet_Writer_Text.f k a0 a1 a2) (octet_Writer_Text.f (k + 1) a0 a1 a2) := octet_Writer_Text.les k

set_option maxRecDepth 100000 in
theorem octet_Writer_Num.les (k : Nat) : (∀ a0 a1 a2, Le (octet_Writer_Num.f k a0 a1 a2) (octet_Writer_Num.f (k + 1) a0 a1 a2)) := by
  induction k with
  | zero => exact fun _ _ _ => Le.none _
  | succ k ih =>
    have h0 := ih
    exact fun _ _ _ => Le.bind (octet_Num.le ..) fun _ => Le.cond (Le.bind (Le.refl _) fun _ => Le.refl _) (Le.bind (Le.refl _) fun _ => Le.refl _)
set_option maxRecDepth 100000 in
theorem octet_Writer_Num.le (k : Nat) : ∀ a0 a1 a2, Le (octet_Writer_Num.f k a0 a1 a2) (octet_Writer_Num.f (k + 1) a0 a1 a2) := octet_Writer_Num.les k

set_option maxRecDepth 100000 in
theorem octet_Writer_All.les (k : Nat) : (∀ a0 a1, Le (octet_Writer_All.f k a0 a1) (octet_Writer_All.f (k + 1) a0 a1)) := by
  induction k with
  | zero => exact fun _ _ => Le.none _
  | succ k ih =>
    have h0 := ih
    exact fun _ _ => Le.refl _
set_option maxRecDepth 100000 in
theorem octet_Writer_All.le (k : Nat) : ∀ a0 a1, Le (octet_Writer_All.f k a0 a1) (octet_Writer_All.f (k + 1) a0 a1) := octet_Writer_All.les k

set_option maxRecDepth 100000 in
theorem pledge_Leaf.les (k : Nat) : (∀ a0 a1 a2 a3 a4 a5 a6, Le (pledge_Leaf.f k a0 a1 a2 a3 a4 a5 a6) (pledge_Leaf.f (k + 1) a0 a1 a2 a3 a4 a5 a6)) := by
  induction k with
  | zero => exact fun _ _ _ _ _ _ _ => Le.none _
  | succ k ih =>
    have h0 := ih
    exact fun _ _ _ _ _ _ _ => Le.bind (Le.refl _) fun _ => Le.bind (mill_Mill_Sum.le ..) fun _ => Le.refl _
set_option maxRecDepth 100000 in
theorem pledge_Leaf.le (k : Nat) : ∀ a0 a1 a2 a3 a4 a5 a6, Le (pledge_Leaf.f k a0 a1 a2 a3 a4 a5 a6) (pledge_Leaf.f (k + 1) a0 a1 a2 a3 a4 a5 a6) := pledge_Leaf.les k

set_option maxRecDepth 100000 in
theorem sheet_Paper.les (k : Nat) : (∀ a0 a1 a2 a3 a4 a5 a6 a7 a8 a9 a10, Le (sheet_Paper.f k a0 a1 a2 a3 a4 a5 a6 a7 a8 a9 a10) (sheet_Paper.f (k + 1) a0 a1 a2 a3 a4 a5 a6 a7 a8 a9 a10)) := by
  induction k with
  | zero => exact fun _ _ _ _ _ _ _ _ _ _ _ => Le.none _
  | succ k ih =>
    have h0 := ih
    exact fun _ _ _ _ _ _ _ _ _ _ _ => Le.bind (octet_Writer_Text.le ..) fun _ => Le.bind (octet_Writer_Num.le ..) fun _ => Le.bind (octet_Writer_Num.le ..) fun _ => Le.bind (octet_Writer_Num.le ..) fun _ => Le.bind (octet_Writer_Text.le ..) fun _ => Le.bind (octet_Writer_All.le ..) fun _ => Le.cond (Le.refl _) (Le.bind (pledge_Leaf.le ..) fun _ => Le.refl _)
set_option maxRecDepth 100000 in
theorem sheet_Paper.le (k : Nat) : ∀ a0 a1 a2 a3 a4 a5 a6 a7 a8 a9 a10, Le (sheet_Paper.f k a0 a1 a2 a3 a4 a5 a6 a7 a8 a9 a10) (sheet_Paper.f (k + 1) a0 a1 a2 a3 a4 a5 a6 a7 a8 a9 a10) := sheet_Paper.les k

set_option maxRecDepth 100000 in
theorem sheet_Leaf.les (k : Nat) : (∀ a0 a1 a2 a3 a4 a5 a6 a7, Le (sheet_Leaf.f k a0 a1 a2 a3 a4 a5 a6 a7) (sheet_Leaf.f (k + 1) a0 a1 a2 a3 a4 a5 a6 a7)) := by
  induction k with
  | zero => exact fun _ _ _ _ _ _ _ _ => Le.none _
  | succ k ih =>
    have h0 := ih
    exact fun _ _ _ _ _ _ _ _ => Le.bind (octet_Text.le ..) fun _ => Le.bind (octet_Text.le ..) fun _ => Le.bind (Le.refl _) fun _ => Le.bind (pledge_Leaf.le ..) fun _ => Le.refl _
set_option maxRecDepth 100000 in
theorem sheet_Leaf.le (k : Nat) : ∀ a0 a1 a2 a3 a4 a5 a6 a7, Le (sheet_Leaf.f k a0 a1 a2 a3 a4 a5 a6 a7) (sheet_Leaf.f (k + 1) a0 a1 a2 a3 a4 a5 a6 a7) := sheet_Leaf.les k

set_option maxRecDepth 100000 in
theorem value_of.les (k : Nat) : (∀ a0, Le (value_of.f k a0) (value_of.f (k + 1) a0)) ∧ (∀ a0 a1 a2 a3, Le (value_of.l0 k a0 a1 a2 a3) (value_of.l0 (k + 1) a0 a1 a2 a3)) := by
  induction k with
  | zero => exact ⟨fun _ => Le.none _, fun _ _ _ _ => Le.none _⟩
  | succ k ih =>
    obtain ⟨h0, h1⟩ := ih
    exact ⟨fun _ => h1 .., fun _ _ _ _ => Le.cond (Le.bind (Le.refl _) fun _ => Le.bind (Le.refl _) fun _ => h1 ..) (Le.refl _)⟩
set_option maxRecDepth 100000 in
theorem value_of.le (k : Nat) : ∀ a0, Le (value_of.f k a0) (value_of.f (k + 1) a0) := (value_of.les k).1

set_option maxRecDepth 100000 in
theorem value_nan.les (k : Nat) : (∀ a0, Le (value_nan.f k a0) (value_nan.f (k + 1) a0)) := by
  induction k with
  | zero => exact fun _ => Le.none _
  | succ k ih =>
    have h0 := ih
    exact fun _ => Le.refl _
set_option maxRecDepth 100000 in
theorem value_nan.le (k : Nat) : ∀ a0, Le (value_nan.f k a0) (value_nan.f (k + 1) a0) := value_nan.les k

set_option maxRecDepth 100000 in
theorem value_Clean.les (k : Nat) : (∀ a0, Le (value_Clean.f k a0) (value_Clean.f (k + 1) a0)) := by
  induction k with
  | zero => exact fun _ => Le.none _
  | succ k ih =>
    have h0 := ih
    exact fun _ => Le.cond (Le.refl _) (Le.cond (Le.refl _) (Le.cond (Le.bind (value_nan.le ..) fun _ => Le.cond (Le.refl _) (Le.refl _)) (Le.cond (Le.refl _) (Le.refl _))))
set_option maxRecDepth 100000 in
theorem value_Clean.le (k : Nat) : ∀ a0, Le (value_Clean.f k a0) (value_Clean.f (k + 1) a0) := value_Clean.les k

set_option maxRecDepth 100000 in
theorem value_Right.les (k : Nat) : (∀ a0, Le (value_Right.f k a0) (value_Right.f (k + 1) a0)) := by
  induction k with
  | zero => exact fun _ => Le.none _
  | succ k ih =>
    have h0 := ih
    exact fun _ => Le.cond (Le.cond (Le.cond (Le.bind (value_Clean.le ..) fun _ => Le.refl _) (Le.refl _)) (Le.refl _)) (Le.refl _)
set_option maxRecDepth 100000 in
theorem value_Right.le (k : Nat) : ∀ a0, Le (value_Right.f k a0) (value_Right.f (k + 1) a0) := value_Right.les k

set_option maxRecDepth 100000 in
theorem value_Read.les (k : Nat) : (∀ a0, Le (value_Read.f k a0) (value_Read.f (k + 1) a0)) ∧ (∀ a0 a1 a2 a3 a4 a5 a6 a7 a8 a9 a10 a11 a12, Le (value_Read.j0 k a0 a1 a2 a3 a4 a5 a6 a7 a8 a9 a10 a11 a12) (value_Read.j0 (k + 1) a0 a1 a2 a3 a4 a5 a6 a7 a8 a9 a10 a11 a12)) := by
  induction k with
  | zero => exact ⟨fun _ => Le.none _, fun _ _ _ _ _ _ _ _ _ _ _ _ _ => Le.none _⟩
  | succ k ih =>
    obtain ⟨h0, h1⟩ := ih
    exact ⟨fun _ => Le.bind (octet_Read.le ..) fun _ => Le.bind (octet_Reader_Num.le ..) fun _ => Le.cond (Le.bind (octet_Reader_Flag.le ..) fun _ => h1 ..) (Le.cond (Le.bind (octet_Reader_Raw.le ..) fun _ => Le.bind (value_of.le ..) fun _ => h1 ..) (Le.cond (Le.bind (octet_Reader_Raw.le ..) fun _ => Le.bind (value_of.le ..) fun _ => h1 ..) (Le.cond (Le.bind (octet_Reader_Text.le ..) fun _ => h1 ..) (h1 ..)))), fun _ _ _ _ _ _ _ _ _ _ _ _ _ => Le.bind (octet_Reader_End.le ..) fun _ => Le.cond (Le.refl _) (Le.bind (value_Right.le ..) fun _ => Le.cond (Le.refl _) (Le.refl _))⟩
set_option maxRecDepth 100000 in
theorem value_Read.le (k : Nat) : ∀ a0, Le (value_Read.f k a0) (value_Read.f (k + 1) a0) := (value_Read.les k).1

set_option maxRecDepth 100000 in
theorem sheet_Rising.les (k : Nat) : (∀ a0 a1, Le (sheet_Rising.f k a0 a1) (sheet_Rising.f (k + 1) a0 a1)) ∧ (∀ a0 a1 a2 a3 a4, Le (sheet_Rising.l0 k a0 a1 a2 a3 a4) (sheet_Rising.l0 (k + 1) a0 a1 a2 a3 a4)) := by
  induction k with
  | zero => exact ⟨fun _ _ => Le.none _, fun _ _ _ _ _ => Le.none _⟩
  | succ k ih =>
    obtain ⟨h0, h1⟩ := ih
    exact ⟨fun _ _ => h1 .., fun _ _ _ _ _ => Le.cond (Le.bind (Le.refl _) fun _ => Le.cond (Le.refl _) (Le.cond (Le.refl _) (Le.cond (Le.bind (Le.refl _) fun _ => Le.cond (Le.refl _) (h1 ..)) (h1 ..)))) (Le.refl _)⟩
set_option maxRecDepth 100000 in
theorem sheet_Rising.le (k : Nat) : ∀ a0 a1, Le (sheet_Rising.f k a0 a1) (sheet_Rising.f (k + 1) a0 a1) := (sheet_Rising.les k).1

set_option maxRecDepth 100000 in
theorem pledge_Node.les (k : Nat) : (∀ a0 a1 a2 a3 a4 a5 a6 a7, Le (pledge_Node.f k a0 a1 a2 a3 a4 a5 a6 a7) (pledge_Node.f (k + 1) a0 a1 a2 a3 a4 a5 a6 a7)) := by
  induction k with
  | zero => exact fun _ _ _ _ _ _ _ _ => Le.none _
  | succ k ih =>
    have h0 := ih
    exact fun _ _ _ _ _ _ _ _ => Le.bind (Le.refl _) fun _ => Le.bind (Le.refl _) fun _ => Le.bind (mill_Mill_Sum.le ..) fun _ => Le.refl _
set_option maxRecDepth 100000 in
theorem pledge_Node.le (k : Nat) : ∀ a0 a1 a2 a3 a4 a5 a6 a7, Le (pledge_Node.f k a0 a1 a2 a3 a4 a5 a6 a7) (pledge_Node.f (k + 1) a0 a1 a2 a3 a4 a5 a6 a7) := pledge_Node.les k

set_option maxRecDepth 100000 in
theorem sheet_picked.les (k : Nat) : (∀ a0 a1 a2, Le (sheet_picked.f k a0 a1 a2) (sheet_picked.f (k + 1) a0 a1 a2)) ∧ (∀ a0 a1 a2 a3 a4, Le (sheet_picked.l0 k a0 a1 a2 a3 a4) (sheet_picked.l0 (k + 1) a0 a1 a2 a3 a4)) := by
  induction k with
  | zero => exact ⟨fun _ _ _ => Le.none _, fun _ _ _ _ _ => Le.none _⟩
  | succ k ih =>
    obtain ⟨h0, h1⟩ := ih
    exact ⟨fun _ _ _ => h1 .., fun _ _ _ _ _ => Le.cond (Le.bind (Le.refl _) fun _ => Le.cond (Le.cond (Le.refl _) (h1 ..)) (h1 ..)) (Le.refl _)⟩
set_option maxRecDepth 100000 in
theorem sheet_picked.le (k : Nat) : ∀ a0 a1 a2, Le (sheet_picked.f k a0 a1 a2) (sheet_picked.f (k + 1) a0 a1 a2) := (sheet_picked.les k).1

set_option maxRecDepth 100000 in
theorem sheet_next_v1.les (k : Nat) : (∀ a0 a1 a2 a3 a4 a5 a6 a7 a8 a9, Le (sheet_next_v1.f k a0 a1 a2 a3 a4 a5 a6 a7 a8 a9) (sheet_next_v1.f (k + 1) a0 a1 a2 a3 a4 a5 a6 a7 a8 a9)) := by
  induction k with
  | zero => exact fun _ _ _ _ _ _ _ _ _ _ => Le.none _
  | succ k ih =>
    have h0 := ih
    exact fun _ _ _ _ _ _ _ _ _ _ => Le.refl _
set_option maxRecDepth 100000 in
theorem sheet_next_v1.le (k : Nat) : ∀ a0 a1 a2 a3 a4 a5 a6 a7 a8 a9, Le (sheet_next_v1.f k a0 a1 a2 a3 a4 a5 a6 a7 a8 a9) (sheet_next_v1.f (k + 1) a0 a1 a2 a3 a4 a5 a6 a7 a8 a9) := sheet_next_v1.les k

set_option maxRecDepth 100000 in
theorem sheet_next_v2.les (k : Nat) : (∀ a0 a1 a2 a3 a4 a5 a6 a7 a8 a9, Le (sheet_next_v2.f k a0 a1 a2 a3 a4 a5 a6 a7 a8 a9) (sheet_next_v2.f (k + 1) a0 a1 a2 a3 a4 a5 a6 a7 a8 a9)) := by
  induction k with
  | zero => exact fun _ _ _ _ _ _ _ _ _ _ => Le.none _
  | succ k ih =>
    have h0 := ih
    exact fun _ _ _ _ _ _ _ _ _ _ => Le.refl _
set_option maxRecDepth 100000 in
theorem sheet_next_v2.le (k : Nat) : ∀ a0 a1 a2 a3 a4 a5 a6 a7 a8 a9, Le (sheet_next_v2.f k a0 a1 a2 a3 a4 a5 a6 a7 a8 a9) (sheet_next_v2.f (k + 1) a0 a1 a2 a3 a4 a5 a6 a7 a8 a9) := sheet_next_v2.les k

set_option maxRecDepth 100000 in
theorem sheet_split.les (k : Nat) : (∀ a0, Le (sheet_split.f k a0) (sheet_split.f (k + 1) a0)) ∧ (∀ a0 a1, Le (sheet_split.l0 k a0 a1) (sheet_split.l0 (k + 1) a0 a1)) := by
  induction k with
  | zero => exact ⟨fun _ => Le.none _, fun _ _ => Le.none _⟩
  | succ k ih =>
    obtain ⟨h0, h1⟩ := ih
    exact ⟨fun _ => h1 .., fun _ _ => Le.cond (h1 ..) (Le.refl _)⟩
set_option maxRecDepth 100000 in
theorem sheet_split.le (k : Nat) : ∀ a0, Le (sheet_split.f k a0) (sheet_split.f (k + 1) a0) := (sheet_split.les k).1

set_option maxRecDepth 100000 in
theorem sheet_walker_root.les (k : Nat) : (∀ a0 a1 a2 a3 a4 a5 a6 a7 a8 a9 a10 a11, Le (sheet_walker_root.f k a0 a1 a2 a3 a4 a5 a6 a7 a8 a9 a10 a11) (sheet_walker_root.f (k + 1) a0 a1 a2 a3 a4 a5 a6 a7 a8 a9 a10 a11)) := by
  induction k with
  | zero => exact fun _ _ _ _ _ _ _ _ _ _ _ _ => Le.none _
  | succ k ih =>
    have h0 := ih
    exact fun _ _ _ _ _ _ _ _ _ _ _ _ => Le.cond (Le.refl _) (Le.bind (sheet_picked.le ..) fun _ => Le.cond (Le.bind (sheet_next_v1.le ..) fun _ => Le.refl _) (Le.cond (Le.bind (sheet_next_v2.le ..) fun _ => Le.refl _) (Le.bind (sheet_split.le ..) fun _ => Le.bind (h0 ..) fun _ => Le.bind (h0 ..) fun _ => Le.bind (pledge_Node.le ..) fun _ => Le.refl _)))
set_option maxRecDepth 100000 in
theorem sheet_walker_root.le (k : Nat) : ∀ a0 a1 a2 a3 a4 a5 a6 a7 a8 a9 a10 a11, Le (sheet_walker_root.f k a0 a1 a2 a3 a4 a5 a6 a7 a8 a9 a10 a11) (sheet_walker_root.f (k + 1) a0 a1 a2 a3 a4 a5 a6 a7 a8 a9 a10 a11) := sheet_walker_root.les k

set_option maxRecDepth 100000 in
theorem sheet_Rebuild.les (k : Nat) : (∀ a0 a1 a2 a3 a4 a5 a6 a7 a8 a9, Le (sheet_Rebuild.f k a0 a1 a2 a3 a4 a5 a6 a7 a8 a9) (sheet_Rebuild.f (k + 1) a0 a1 a2 a3 a4 a5 a6 a7 a8 a9)) ∧ (∀ a0 a1 a2 a3 a4 a5 a6 a7 a8 a9, Le (sheet_Rebuild.j0 k a0 a1 a2 a3 a4 a5 a6 a7 a8 a9) (sheet_Rebuild.j0 (k + 1) a0 a1 a2 a3 a4 a5 a6 a7 a8 a9)) ∧ (∀ a0 a1 a2 a3 a4 a5 a6 a7 a8 a9 a10 a11 a12, Le (sheet_Rebuild.l0 k a0 a1 a2 a3 a4 a5 a6 a7 a8 a9 a10 a11 a12) (sheet_Rebuild.l0 (k + 1) a0 a1 a2 a3 a4 a5 a6 a7 a8 a9 a10 a11 a12)) := by
  induction k with
  | zero => exact ⟨fun _ _ _ _ _ _ _ _ _ _ => Le.none _, fun _ _ _ _ _ _ _ _ _ _ => Le.none _, fun _ _ _ _ _ _ _ _ _ _ _ _ _ => Le.none _⟩
  | succ k ih =>
    obtain ⟨h0, h1, h2⟩ := ih
    exact ⟨fun _ _ _ _ _ _ _ _ _ _ => Le.cond (Le.refl _) (Le.cond (Le.refl _) (Le.cond (Le.refl _) (Le.cond (Le.refl _) (Le.bind (sheet_Rising.le ..) fun _ => Le.cond (Le.refl _) (h1 ..))))), fun _ _ _ _ _ _ _ _ _ _ => h2 .., fun _ _ _ _ _ _ _ _ _ _ _ _ _ => Le.cond (Le.bind (Le.refl _) fun _ => Le.cond (Le.refl _) (h2 ..)) (Le.bind (sheet_walker_root.le ..) fun _ => Le.cond (Le.refl _) (Le.cond (Le.refl _) (Le.refl _)))⟩
set_option maxRecDepth 100000 in
theorem sheet_Rebuild.le (k : Nat) : ∀ a0 a1 a2 a3 a4 a5 a6 a7 a8 a9, Le (sheet_Rebuild.f k a0 a1 a2 a3 a4 a5 a6 a7 a8 a9) (sheet_Rebuild.f (k + 1) a0 a1 a2 a3 a4 a5 a6 a7 a8 a9) := (sheet_Rebuild.les k).1

set_option maxRecDepth 100000 in
theorem merkle_sums.les (k : Nat) : (∀ a0, Le (merkle_sums.f k a0) (merkle_sums.f (k + 1) a0)) ∧ (∀ a0 a1 a2, Le (merkle_sums.l0 k a0 a1 a2) (merkle_sums.l0 (k + 1) a0 a1 a2)) := by
  induction k with
  | zero => exact ⟨fun _ => Le.none _, fun _ _ _ => Le.none _⟩
  | succ k ih =>
    obtain ⟨h0, h1⟩ := ih
    exact ⟨fun _ => h1 .., fun _ _ _ => Le.cond (Le.bind (Le.refl _) fun _ => Le.cond (Le.refl _) (h1 ..)) (Le.refl _)⟩
set_option maxRecDepth 100000 in
theorem merkle_sums.le (k : Nat) : ∀ a0, Le (merkle_sums.f k a0) (merkle_sums.f (k + 1) a0) := (merkle_sums.les k).1

set_option maxRecDepth 100000 in
theorem merkle_split.les (k : Nat) : (∀ a0, Le (merkle_split.f k a0) (merkle_split.f (k + 1) a0)) ∧ (∀ a0 a1, Le (merkle_split.l0 k a0 a1) (merkle_split.l0 (k + 1) a0 a1)) := by
  induction k with
  | zero => exact ⟨fun _ => Le.none _, fun _ _ => Le.none _⟩
  | succ k ih =>
    obtain ⟨h0, h1⟩ := ih
    exact ⟨fun _ => h1 .., fun _ _ => Le.cond (h1 ..) (Le.refl _)⟩
set_option maxRecDepth 100000 in
theorem merkle_split.le (k : Nat) : ∀ a0, Le (merkle_split.f k a0) (merkle_split.f (k + 1) a0) := (merkle_split.les k).1

set_option maxRecDepth 100000 in
theorem merkle_climb.les (k : Nat) : (∀ a0 a1 a2 a3 a4 a5 a6 a7 a8 a9, Le (merkle_climb.f k a0 a1 a2 a3 a4 a5 a6 a7 a8 a9) (merkle_climb.f (k + 1) a0 a1 a2 a3 a4 a5 a6 a7 a8 a9)) := by
  induction k with
  | zero => exact fun _ _ _ _ _ _ _ _ _ _ => Le.none _
  | succ k ih =>
    have h0 := ih
    exact fun _ _ _ _ _ _ _ _ _ _ => Le.cond (Le.refl _) (Le.cond (Le.refl _) (Le.bind (merkle_split.le ..) fun _ => Le.bind (Le.refl _) fun _ => Le.bind (Le.refl _) fun _ => Le.cond (Le.bind (h0 ..) fun _ => Le.bind (pledge_Node.le ..) fun _ => Le.refl _) (Le.bind (h0 ..) fun _ => Le.bind (pledge_Node.le ..) fun _ => Le.refl _)))
set_option maxRecDepth 100000 in
theorem merkle_climb.le (k : Nat) : ∀ a0 a1 a2 a3 a4 a5 a6 a7 a8 a9, Le (merkle_climb.f k a0 a1 a2 a3 a4 a5 a6 a7 a8 a9) (merkle_climb.f (k + 1) a0 a1 a2 a3 a4 a5 a6 a7 a8 a9) := merkle_climb.les k

set_option maxRecDepth 100000 in
theorem merkle_Climb.les (k : Nat) : (∀ a0 a1 a2 a3 a4 a5 a6 a7 a8 a9, Le (merkle_Climb.f k a0 a1 a2 a3 a4 a5 a6 a7 a8 a9) (merkle_Climb.f (k + 1) a0 a1 a2 a3 a4 a5 a6 a7 a8 a9)) ∧ (∀ a0 a1 a2 a3 a4 a5 a6 a7 a8 a9, Le (merkle_Climb.j0 k a0 a1 a2 a3 a4 a5 a6 a7 a8 a9) (merkle_Climb.j0 (k + 1) a0 a1 a2 a3 a4 a5 a6 a7 a8 a9)) := by
  induction k with
  | zero => exact ⟨fun _ _ _ _ _ _ _ _ _ _ => Le.none _, fun _ _ _ _ _ _ _ _ _ _ => Le.none _⟩
  | succ k ih =>
    obtain ⟨h0, h1⟩ := ih
    exact ⟨fun _ _ _ _ _ _ _ _ _ _ => Le.cond (Le.refl _) (Le.cond (Le.refl _) (Le.cond (Le.refl _) (Le.cond (Le.refl _) (Le.cond (Le.refl _) (Le.bind (merkle_sums.le ..) fun _ => Le.cond (Le.refl _) (Le.bind (merkle_sums.le ..) fun _ => Le.cond (Le.refl _) (h1 ..))))))), fun _ _ _ _ _ _ _ _ _ _ => Le.bind (merkle_climb.le ..) fun _ => Le.cond (Le.refl _) (Le.refl _)⟩
set_option maxRecDepth 100000 in
theorem merkle_Climb.le (k : Nat) : ∀ a0 a1 a2 a3 a4 a5 a6 a7 a8 a9, Le (merkle_Climb.f k a0 a1 a2 a3 a4 a5 a6 a7 a8 a9) (merkle_Climb.f (k + 1) a0 a1 a2 a3 a4 a5 a6 a7 a8 a9) := (merkle_Climb.les k).1

set_option maxRecDepth 100000 in
theorem auditor_Check.les (k : Nat) : (∀ a0 a1 a2 a3 a4 a5 a6 a7, Le (auditor_Check.f k a0 a1 a2 a3 a4 a5 a6 a7) (auditor_Check.f (k + 1) a0 a1 a2 a3 a4 a5 a6 a7)) ∧ (∀ a0 a1 a2 a3 a4 a5 a6 a7 a8 a9 a10 a11 a12 a13 a14 a15 a16 a17 a18 a19 a20 a21 a22, Le (auditor_Check.l0 k a0 a1 a2 a3 a4 a5 a6 a7 a8 a9 a10 a11 a12 a13 a14 a15 a16 a17 a18 a19 a20 a21 a22) (auditor_Check.l0 (k + 1) a0 a1 a2 a3 a4 a5 a6 a7 a8 a9 a10 a11 a12 a13 a14 a15 a16 a17 a18 a19 a20 a21 a22)) := by
  induction k with
  | zero => exact ⟨fun _ _ _ _ _ _ _ _ => Le.none _, fun _ _ _ _ _ _ _ _ _ _ _ _ _ _ _ _ _ _ _ _ _ _ _ => Le.none _⟩
  | succ k ih =>
    obtain ⟨h0, h1⟩ := ih
    exact ⟨fun _ _ _ _ _ _ _ _ => Le.bind (proof_Right.le ..) fun _ => Le.cond (Le.refl _) (Le.cond (Le.refl _) (h1 ..)), fun _ _ _ _ _ _ _ _ _ _ _ _ _ _ _ _ _ _ _ _ _ _ _ => Le.cond (Le.bind (Le.refl _) fun _ => Le.cond (Le.bind (value_Read.le ..) fun _ => Le.cond (Le.refl _) (Le.bind (pledge_Of.le ..) fun _ => Le.bind (Le.refl _) fun _ => Le.bind (Le.refl _) fun _ => Le.bind (sheet_Leaf.le ..) fun _ => Le.bind (Le.refl _) fun _ => h1 ..)) (Le.bind (Le.refl _) fun _ => Le.bind (Le.refl _) fun _ => Le.bind (sheet_Leaf.le ..) fun _ => Le.bind (Le.refl _) fun _ => h1 ..)) (Le.bind (sheet_Rebuild.le ..) fun _ => Le.cond (Le.refl _) (Le.bind (sheet_Paper.le ..) fun _ => Le.bind (merkle_Climb.le ..) fun _ => Le.cond (Le.refl _) (Le.cond (Le.refl _) (Le.refl _))))⟩
set_option maxRecDepth 100000 in
theorem auditor_Check.le (k : Nat) : ∀ a0 a1 a2 a3 a4 a5 a6 a7, Le (auditor_Check.f k a0 a1 a2 a3 a4 a5 a6 a7) (auditor_Check.f (k + 1) a0 a1 a2 a3 a4 a5 a6 a7) := (auditor_Check.les k).1

set_option maxRecDepth 100000 in
theorem auditor_Against.les (k : Nat) : (∀ a0 a1, Le (auditor_Against.f k a0 a1) (auditor_Against.f (k + 1) a0 a1)) := by
  induction k with
  | zero => exact fun _ _ => Le.none _
  | succ k ih =>
    have h0 := ih
    exact fun _ _ => Le.refl _
set_option maxRecDepth 100000 in
theorem auditor_Against.le (k : Nat) : ∀ a0 a1, Le (auditor_Against.f k a0 a1) (auditor_Against.f (k + 1) a0 a1) := auditor_Against.les k

set_option maxRecDepth 100000 in
theorem extract_against.les (k : Nat) : (∀ a0 a1, Le (extract_against.f k a0 a1) (extract_against.f (k + 1) a0 a1)) ∧ (∀ a0 a1 a2 a3, Le (extract_against.l0 k a0 a1 a2 a3) (extract_against.l0 (k + 1) a0 a1 a2 a3)) ∧ (∀ a0 a1 a2 a3 a4 a5 a6 a7 a8 a9 a10 a11 a12, Le (extract_against.l1 k a0 a1 a2 a3 a4 a5 a6 a7 a8 a9 a10 a11 a12) (extract_against.l1 (k + 1) a0 a1 a2 a3 a4 a5 a6 a7 a8 a9 a10 a11 a12)) := by
  induction k with
  | zero => exact ⟨fun _ _ => Le.none _, fun _ _ _ _ => Le.none _, fun _ _ _ _ _ _ _ _ _ _ _ _ _ => Le.none _⟩
  | succ k ih =>
    obtain ⟨h0, h1, h2⟩ := ih
    exact ⟨fun _ _ => h1 .., fun _ _ _ _ => Le.cond (Le.bind (Le.refl _) fun _ => h2 ..) (Le.refl _), fun _ _ _ _ _ _ _ _ _ _ _ _ _ => Le.cond (Le.bind (Le.refl _) fun _ => Le.bind (auditor_Against.le ..) fun _ => Le.cond (Le.refl _) (h2 ..)) (h1 ..)⟩
set_option maxRecDepth 100000 in
theorem extract_against.le (k : Nat) : ∀ a0 a1, Le (extract_against.f k a0 a1) (extract_against.f (k + 1) a0 a1) := (extract_against.les k).1

set_option maxRecDepth 100000 in
theorem mill_Mill_Twins.les (k : Nat) : (∀ a0 a1 a2 a3 a4 a5, Le (mill_Mill_Twins.f k a0 a1 a2 a3 a4 a5) (mill_Mill_Twins.f (k + 1) a0 a1 a2 a3 a4 a5)) := by
  induction k with
  | zero => exact fun _ _ _ _ _ _ => Le.none _
  | succ k ih =>
    have h0 := ih
    exact fun _ _ _ _ _ _ => Le.bind (mill_Mill_none.le ..) fun _ => Le.cond (Le.refl _) (Le.refl _)
set_option maxRecDepth 100000 in
theorem mill_Mill_Twins.le (k : Nat) : ∀ a0 a1 a2 a3 a4 a5, Le (mill_Mill_Twins.f k a0 a1 a2 a3 a4 a5) (mill_Mill_Twins.f (k + 1) a0 a1 a2 a3 a4 a5) := mill_Mill_Twins.les k

set_option maxRecDepth 100000 in
theorem extract_found.les (k : Nat) : (∀ a0 a1 a2 a3 a4 a5, Le (extract_found.f k a0 a1 a2 a3 a4 a5) (extract_found.f (k + 1) a0 a1 a2 a3 a4 a5)) := by
  induction k with
  | zero => exact fun _ _ _ _ _ _ => Le.none _
  | succ k ih =>
    have h0 := ih
    exact fun _ _ _ _ _ _ => Le.bind (mill_Mill_Twins.le ..) fun _ => Le.cond (Le.refl _) (Le.refl _)
set_option maxRecDepth 100000 in
theorem extract_found.le (k : Nat) : ∀ a0 a1 a2 a3 a4 a5, Le (extract_found.f k a0 a1 a2 a3 a4 a5) (extract_found.f (k + 1) a0 a1 a2 a3 a4 a5) := extract_found.les k

set_option maxRecDepth 100000 in
theorem octet_Writer_Flag.les (k : Nat) : (∀ a0 a1 a2, Le (octet_Writer_Flag.f k a0 a1 a2) (octet_Writer_Flag.f (k + 1) a0 a1 a2)) := by
  induction k with
  | zero => exact fun _ _ _ => Le.none _
  | succ k ih =>
    have h0 := ih
    exact fun _ _ _ => Le.refl _
set_option maxRecDepth 100000 in
theorem octet_Writer_Flag.le (k : Nat) : ∀ a0 a1 a2, Le (octet_Writer_Flag.f k a0 a1 a2) (octet_Writer_Flag.f (k + 1) a0 a1 a2) := octet_Writer_Flag.les k

set_option maxRecDepth 100000 in
theorem proof_item.les (k : Nat) : (∀ a0 a1 a2, Le (proof_item.f k a0 a1 a2) (proof_item.f (k + 1) a0 a1 a2)) := by
  induction k with
  | zero => exact fun _ _ _ => Le.none _
  | succ k ih =>
    have h0 := ih
    exact fun _ _ _ => Le.bind (octet_Writer_Num.le ..) fun _ => Le.bind (octet_Writer_Text.le ..) fun _ => Le.bind (octet_Writer_Flag.le ..) fun _ => Le.cond (Le.bind (octet_Writer_Text.le ..) fun _ => Le.refl _) (Le.bind (octet_Writer_Text.le ..) fun _ => Le.bind (octet_Writer_Text.le ..) fun _ => Le.refl _)
set_option maxRecDepth 100000 in
theorem proof_item.le (k : Nat) : ∀ a0 a1 a2, Le (proof_item.f k a0 a1 a2) (proof_item.f (k + 1) a0 a1 a2) := proof_item.les k

set_option maxRecDepth 100000 in
theorem octet_Writer_Texts.les (k : Nat) : (∀ a0 a1 a2, Le (octet_Writer_Texts.f k a0 a1 a2) (octet_Writer_Texts.f (k + 1) a0 a1 a2)) ∧ (∀ a0 a1 a2 a3 a4, Le (octet_Writer_Texts.l0 k a0 a1 a2 a3 a4) (octet_Writer_Texts.l0 (k + 1) a0 a1 a2 a3 a4)) := by
  induction k with
  | zero => exact ⟨fun _ _ _ => Le.none _, fun _ _ _ _ _ => Le.none _⟩
  | succ k ih =>
    obtain ⟨h0, h1⟩ := ih
    exact ⟨fun _ _ _ => Le.bind (octet_Writer_Num.le ..) fun _ => h1 .., fun _ _ _ _ _ => Le.cond (Le.bind (Le.refl _) fun _ => Le.bind (octet_Writer_Text.le ..) fun _ => h1 ..) (Le.refl _)⟩
set_option maxRecDepth 100000 in
theorem octet_Writer_Texts.le (k : Nat) : ∀ a0 a1 a2, Le (octet_Writer_Texts.f k a0 a1 a2) (octet_Writer_Texts.f (k + 1) a0 a1 a2) := (octet_Writer_Texts.les k).1

set_option maxRecDepth 100000 in
theorem proof_Bytes.les (k : Nat) : (∀ a0, Le (proof_Bytes.f k a0) (proof_Bytes.f (k + 1) a0)) ∧ (∀ a0 a1 a2 a3 a4 a5 a6 a7 a8 a9 a10 a11 a12, Le (proof_Bytes.l0 k a0 a1 a2 a3 a4 a5 a6 a7 a8 a9 a10 a11 a12) (proof_Bytes.l0 (k + 1) a0 a1 a2 a3 a4 a5 a6 a7 a8 a9 a10 a11 a12)) ∧ (∀ a0 a1 a2 a3 a4 a5 a6 a7 a8 a9 a10 a11 a12 a13, Le (proof_Bytes.l1 k a0 a1 a2 a3 a4 a5 a6 a7 a8 a9 a10 a11 a12 a13) (proof_Bytes.l1 (k + 1) a0 a1 a2 a3 a4 a5 a6 a7 a8 a9 a10 a11 a12 a13)) := by
  induction k with
  | zero => exact ⟨fun _ => Le.none _, fun _ _ _ _ _ _ _ _ _ _ _ _ _ => Le.none _, fun _ _ _ _ _ _ _ _ _ _ _ _ _ _ => Le.none _⟩
  | succ k ih =>
    obtain ⟨h0, h1, h2⟩ := ih
    exact ⟨fun _ => Le.bind (proof_Right.le ..) fun _ => Le.cond (Le.refl _) (Le.bind (octet_Writer_Text.le ..) fun _ => h1 ..), fun _ _ _ _ _ _ _ _ _ _ _ _ _ => Le.cond (Le.bind (Le.refl _) fun _ => Le.bind (octet_Writer_Num.le ..) fun _ => h1 ..) (h2 ..), fun _ _ _ _ _ _ _ _ _ _ _ _ _ _ => Le.cond (Le.bind (Le.refl _) fun _ => Le.bind (proof_item.le ..) fun _ => h2 ..) (Le.bind (octet_Writer_Texts.le ..) fun _ => Le.bind (octet_Writer_Num.le ..) fun _ => Le.bind (octet_Writer_Num.le ..) fun _ => Le.bind (octet_Writer_Texts.le ..) fun _ => Le.bind (octet_Writer_All.le ..) fun _ => Le.refl _)⟩
set_option maxRecDepth 100000 in
theorem proof_Bytes.le (k : Nat) : ∀ a0, Le (proof_Bytes.f k a0) (proof_Bytes.f (k + 1) a0) := (proof_Bytes.les k).1

set_option maxRecDepth 100000 in
theorem chartularylaw21_one.les (k : Nat) : (∀ a0, Le (chartularylaw21_one.f k a0) (chartularylaw21_one.f (k + 1) a0)) := by
  induction k with
  | zero => exact fun _ => Le.none _
  | succ k ih =>
    have h0 := ih
    exact fun _ => Le.bind (proof_Bytes.le ..) fun _ => Le.refl _
set_option maxRecDepth 100000 in
theorem chartularylaw21_one.le (k : Nat) : ∀ a0, Le (chartularylaw21_one.f k a0) (chartularylaw21_one.f (k + 1) a0) := chartularylaw21_one.les k

set_option maxRecDepth 100000 in
theorem chartularylaw21_against.les (k : Nat) : (∀ a0 a1, Le (chartularylaw21_against.f k a0 a1) (chartularylaw21_against.f (k + 1) a0 a1)) ∧ (∀ a0 a1 a2, Le (chartularylaw21_against.l0 k a0 a1 a2) (chartularylaw21_against.l0 (k + 1) a0 a1 a2)) ∧ (∀ a0 a1 a2 a3, Le (chartularylaw21_against.l1 k a0 a1 a2 a3) (chartularylaw21_against.l1 (k + 1) a0 a1 a2 a3)) := by
  induction k with
  | zero => exact ⟨fun _ _ => Le.none _, fun _ _ _ => Le.none _, fun _ _ _ _ => Le.none _⟩
  | succ k ih =>
    obtain ⟨h0, h1, h2⟩ := ih
    exact ⟨fun _ _ => h1 .., fun _ _ _ => Le.cond (h2 ..) (Le.refl _), fun _ _ _ _ => Le.cond (Le.bind (Le.refl _) fun _ => Le.bind (Le.refl _) fun _ => Le.bind (auditor_Against.le ..) fun _ => Le.cond (Le.refl _) (h2 ..)) (h1 ..)⟩
set_option maxRecDepth 100000 in
theorem chartularylaw21_against.le (k : Nat) : ∀ a0 a1, Le (chartularylaw21_against.f k a0 a1) (chartularylaw21_against.f (k + 1) a0 a1) := (chartularylaw21_against.les k).1

set_option maxRecDepth 100000 in
theorem chartularylaw14_cut.les (k : Nat) : (∀ a0, Le (chartularylaw14_cut.f k a0) (chartularylaw14_cut.f (k + 1) a0)) := by
  induction k with
  | zero => exact fun _ => Le.none _
  | succ k ih =>
    have h0 := ih
    exact fun _ => Le.refl _
set_option maxRecDepth 100000 in
theorem chartularylaw14_cut.le (k : Nat) : ∀ a0, Le (chartularylaw14_cut.f k a0) (chartularylaw14_cut.f (k + 1) a0) := chartularylaw14_cut.les k

set_option maxRecDepth 100000 in
theorem chartularylaw14_FewEntry.les (k : Nat) : (∀ a0, Le (chartularylaw14_FewEntry.f k a0) (chartularylaw14_FewEntry.f (k + 1) a0)) ∧ (∀ a0 a1 a2 a3 a4 a5 a6 a7 a8 a9 a10 a11 a12 a13 a14 a15 a16 a17 a18 a19 a20 a21, Le (chartularylaw14_FewEntry.l0 k a0 a1 a2 a3 a4 a5 a6 a7 a8 a9 a10 a11 a12 a13 a14 a15 a16 a17 a18 a19 a20 a21) (chartularylaw14_FewEntry.l0 (k + 1) a0 a1 a2 a3 a4 a5 a6 a7 a8 a9 a10 a11 a12 a13 a14 a15 a16 a17 a18 a19 a20 a21)) ∧ (∀ a0 a1 a2 a3 a4 a5 a6 a7 a8 a9 a10 a11 a12 a13 a14 a15 a16 a17 a18 a19 a20 a21, Le (chartularylaw14_FewEntry.l1 k a0 a1 a2 a3 a4 a5 a6 a7 a8 a9 a10 a11 a12 a13 a14 a15 a16 a17 a18 a19 a20 a21) (chartularylaw14_FewEntry.l1 (k + 1) a0 a1 a2 a3 a4 a5 a6 a7 a8 a9 a10 a11 a12 a13 a14 a15 a16 a17 a18 a19 a20 a21)) := by
  induction k with
  | zero => exact ⟨fun _ => Le.none _, fun _ _ _ _ _ _ _ _ _ _ _ _ _ _ _ _ _ _ _ _ _ _ => Le.none _, fun _ _ _ _ _ _ _ _ _ _ _ _ _ _ _ _ _ _ _ _ _ _ => Le.none _⟩
  | succ k ih =>
    obtain ⟨h0, h1, h2⟩ := ih
    exact ⟨fun _ => Le.bind (chartularylaw14_cut.le ..) fun _ => h1 .., fun _ _ _ _ _ _ _ _ _ _ _ _ _ _ _ _ _ _ _ _ _ _ => Le.cond (Le.cond (Le.bind (Le.refl _) fun _ => Le.bind (chartularylaw14_cut.le ..) fun _ => Le.bind (chartularylaw14_cut.le ..) fun _ => Le.bind (chartularylaw14_cut.le ..) fun _ => Le.bind (Le.refl _) fun _ => h1 ..) (h2 ..)) (h2 ..), fun _ _ _ _ _ _ _ _ _ _ _ _ _ _ _ _ _ _ _ _ _ _ => Le.cond (Le.cond (Le.bind (Le.refl _) fun _ => Le.bind (chartularylaw14_cut.le ..) fun _ => Le.bind (Le.refl _) fun _ => h2 ..) (Le.refl _)) (Le.refl _)⟩
set_option maxRecDepth 100000 in
theorem chartularylaw14_FewEntry.le (k : Nat) : ∀ a0, Le (chartularylaw14_FewEntry.f k a0) (chartularylaw14_FewEntry.f (k + 1) a0) := (chartularylaw14_FewEntry.les k).1

set_option maxRecDepth 100000 in
theorem chartularylaw19_cut.les (k : Nat) : (∀ a0, Le (chartularylaw19_cut.f k a0) (chartularylaw19_cut.f (k + 1) a0)) := by
  induction k with
  | zero => exact fun _ => Le.none _
  | succ k ih =>
    have h0 := ih
    exact fun _ => Le.refl _
set_option maxRecDepth 100000 in
theorem chartularylaw19_cut.le (k : Nat) : ∀ a0, Le (chartularylaw19_cut.f k a0) (chartularylaw19_cut.f (k + 1) a0) := chartularylaw19_cut.les k

set_option maxRecDepth 100000 in
theorem chartularylaw19_texts.les (k : Nat) : (∀ a0, Le (chartularylaw19_texts.f k a0) (chartularylaw19_texts.f (k + 1) a0)) ∧ (∀ a0 a1 a2, Le (chartularylaw19_texts.l0 k a0 a1 a2) (chartularylaw19_texts.l0 (k + 1) a0 a1 a2)) := by
  induction k with
  | zero => exact ⟨fun _ => Le.none _, fun _ _ _ => Le.none _⟩
  | succ k ih =>
    obtain ⟨h0, h1⟩ := ih
    exact ⟨fun _ => h1 .., fun _ _ _ => Le.cond (Le.cond (Le.bind (Le.refl _) fun _ => Le.bind (chartularylaw19_cut.le ..) fun _ => Le.bind (Le.refl _) fun _ => h1 ..) (Le.refl _)) (Le.refl _)⟩
set_option maxRecDepth 100000 in
theorem chartularylaw19_texts.le (k : Nat) : ∀ a0, Le (chartularylaw19_texts.f k a0) (chartularylaw19_texts.f (k + 1) a0) := (chartularylaw19_texts.les k).1

set_option maxRecDepth 100000 in
theorem chartularylaw19_Few.les (k : Nat) : (∀ a0, Le (chartularylaw19_Few.f k a0) (chartularylaw19_Few.f (k + 1) a0)) ∧ (∀ a0 a1 a2 a3 a4 a5 a6 a7 a8 a9 a10 a11 a12 a13 a14 a15 a16 a17 a18 a19, Le (chartularylaw19_Few.l0 k a0 a1 a2 a3 a4 a5 a6 a7 a8 a9 a10 a11 a12 a13 a14 a15 a16 a17 a18 a19) (chartularylaw19_Few.l0 (k + 1) a0 a1 a2 a3 a4 a5 a6 a7 a8 a9 a10 a11 a12 a13 a14 a15 a16 a17 a18 a19)) := by
  induction k with
  | zero => exact ⟨fun _ => Le.none _, fun _ _ _ _ _ _ _ _ _ _ _ _ _ _ _ _ _ _ _ _ => Le.none _⟩
  | succ k ih =>
    obtain ⟨h0, h1⟩ := ih
    exact ⟨fun _ => Le.bind (chartularylaw19_cut.le ..) fun _ => Le.bind (chartularylaw19_texts.le ..) fun _ => Le.bind (chartularylaw19_texts.le ..) fun _ => h1 .., fun _ _ _ _ _ _ _ _ _ _ _ _ _ _ _ _ _ _ _ _ => Le.cond (Le.cond (Le.bind (Le.refl _) fun _ => Le.bind (chartularylaw19_cut.le ..) fun _ => Le.bind (chartularylaw19_cut.le ..) fun _ => Le.bind (chartularylaw19_cut.le ..) fun _ => Le.bind (chartularylaw19_cut.le ..) fun _ => Le.bind (Le.refl _) fun _ => h1 ..) (Le.refl _)) (Le.refl _)⟩
set_option maxRecDepth 100000 in
theorem chartularylaw19_Few.le (k : Nat) : ∀ a0, Le (chartularylaw19_Few.f k a0) (chartularylaw19_Few.f (k + 1) a0) := (chartularylaw19_Few.les k).1

set_option maxRecDepth 100000 in
theorem pledge_None.les (k : Nat) : (∀ a0 a1 a2 a3 a4 a5, Le (pledge_None.f k a0 a1 a2 a3 a4 a5) (pledge_None.f (k + 1) a0 a1 a2 a3 a4 a5)) := by
  induction k with
  | zero => exact fun _ _ _ _ _ _ => Le.none _
  | succ k ih =>
    have h0 := ih
    exact fun _ _ _ _ _ _ => Le.bind (mill_Mill_Sum.le ..) fun _ => Le.refl _
set_option maxRecDepth 100000 in
theorem pledge_None.le (k : Nat) : ∀ a0 a1 a2 a3 a4 a5, Le (pledge_None.f k a0 a1 a2 a3 a4 a5) (pledge_None.f (k + 1) a0 a1 a2 a3 a4 a5) := pledge_None.les k

set_option maxRecDepth 100000 in
theorem merkle_Root.les (k : Nat) : (∀ a0 a1 a2 a3 a4 a5 a6, Le (merkle_Root.f k a0 a1 a2 a3 a4 a5 a6) (merkle_Root.f (k + 1) a0 a1 a2 a3 a4 a5 a6)) := by
  induction k with
  | zero => exact fun _ _ _ _ _ _ _ => Le.none _
  | succ k ih =>
    have h0 := ih
    exact fun _ _ _ _ _ _ _ => Le.cond (Le.bind (pledge_None.le ..) fun _ => Le.refl _) (Le.cond (Le.bind (Le.refl _) fun _ => Le.refl _) (Le.bind (merkle_split.le ..) fun _ => Le.bind (Le.refl _) fun _ => Le.bind (h0 ..) fun _ => Le.bind (Le.refl _) fun _ => Le.bind (h0 ..) fun _ => Le.bind (pledge_Node.le ..) fun _ => Le.refl _))
set_option maxRecDepth 100000 in
theorem merkle_Root.le (k : Nat) : ∀ a0 a1 a2 a3 a4 a5 a6, Le (merkle_Root.f k a0 a1 a2 a3 a4 a5 a6) (merkle_Root.f (k + 1) a0 a1 a2 a3 a4 a5 a6) := merkle_Root.les k

set_option maxRecDepth 100000 in
theorem sheet_leaves.les (k : Nat) : (∀ a0 a1 a2 a3 a4 a5 a6, Le (sheet_leaves.f k a0 a1 a2 a3 a4 a5 a6) (sheet_leaves.f (k + 1) a0 a1 a2 a3 a4 a5 a6)) ∧ (∀ a0 a1 a2 a3 a4 a5 a6 a7 a8 a9, Le (sheet_leaves.l0 k a0 a1 a2 a3 a4 a5 a6 a7 a8 a9) (sheet_leaves.l0 (k + 1) a0 a1 a2 a3 a4 a5 a6 a7 a8 a9)) := by
  induction k with
  | zero => exact ⟨fun _ _ _ _ _ _ _ => Le.none _, fun _ _ _ _ _ _ _ _ _ _ => Le.none _⟩
  | succ k ih =>
    obtain ⟨h0, h1⟩ := ih
    exact ⟨fun _ _ _ _ _ _ _ => h1 .., fun _ _ _ _ _ _ _ _ _ _ => Le.cond (Le.bind (Le.refl _) fun _ => Le.bind (sheet_Leaf.le ..) fun _ => Le.bind (Le.refl _) fun _ => h1 ..) (Le.refl _)⟩
set_option maxRecDepth 100000 in
theorem sheet_leaves.le (k : Nat) : ∀ a0 a1 a2 a3 a4 a5 a6, Le (sheet_leaves.f k a0 a1 a2 a3 a4 a5 a6) (sheet_leaves.f (k + 1) a0 a1 a2 a3 a4 a5 a6) := (sheet_leaves.les k).1

set_option maxRecDepth 100000 in
theorem sheet_Root.les (k : Nat) : (∀ a0 a1 a2 a3 a4 a5 a6, Le (sheet_Root.f k a0 a1 a2 a3 a4 a5 a6) (sheet_Root.f (k + 1) a0 a1 a2 a3 a4 a5 a6)) := by
  induction k with
  | zero => exact fun _ _ _ _ _ _ _ => Le.none _
  | succ k ih =>
    have h0 := ih
    exact fun _ _ _ _ _ _ _ => Le.bind (sheet_leaves.le ..) fun _ => Le.bind (merkle_Root.le ..) fun _ => Le.refl _
set_option maxRecDepth 100000 in
theorem sheet_Root.le (k : Nat) : ∀ a0 a1 a2 a3 a4 a5 a6, Le (sheet_Root.f k a0 a1 a2 a3 a4 a5 a6) (sheet_Root.f (k + 1) a0 a1 a2 a3 a4 a5 a6) := sheet_Root.les k

set_option maxRecDepth 100000 in
theorem sheet_Entry.les (k : Nat) : (∀ a0 a1 a2 a3 a4 a5 a6, Le (sheet_Entry.f k a0 a1 a2 a3 a4 a5 a6) (sheet_Entry.f (k + 1) a0 a1 a2 a3 a4 a5 a6)) := by
  induction k with
  | zero => exact fun _ _ _ _ _ _ _ => Le.none _
  | succ k ih =>
    have h0 := ih
    exact fun _ _ _ _ _ _ _ => Le.bind (sheet_Root.le ..) fun _ => Le.bind (sheet_Paper.le ..) fun _ => Le.refl _
set_option maxRecDepth 100000 in
theorem sheet_Entry.le (k : Nat) : ∀ a0 a1 a2 a3 a4 a5 a6, Le (sheet_Entry.f k a0 a1 a2 a3 a4 a5 a6) (sheet_Entry.f (k + 1) a0 a1 a2 a3 a4 a5 a6) := sheet_Entry.les k

end Go.Proofs.Ytioagphpiflplaa.E
