/- Laid by gen.py: with more rounds the functions come to the same. -/
import Derived.Test.YtnedfkfelagmpaaEDefs
namespace Go.Proofs.Ytnedfkfelagmpaa.E
open Go Go.Proofs.Ytnedfkfelagmpaa.Eng
set_option linter.unusedVariables false
/-- What the one comes to, the other comes to. -/
structure Le {α : Type} (x y : Option α) : Prop where
  le : ∀ v, x = some v → y = some v
theorem Le.refl {α : Type} (x : Option α) : Le x x := ⟨fun _ h => h⟩
theorem Le.eqv {α : Type} {x y : Option α} (h : x = y) : Le x y := h ▸ Le.refl x
theorem Le.none {α : Type} (y : Option α) : Le none y := ⟨fun _ h => by cases h⟩
theorem Le.bind {α β : Type} {x y : Option α} {g h : α → Option β} (h1 : Le x y) (h2 : ∀ v, Le (g v) (h v)) : Le (x.bind g) (y.bind h) := ⟨fun v hv => by
  cases hx : x with
  | none => rw [hx] at hv; cases hv
  | some w => rw [hx] at hv; rw [h1.le w hx]; exact (h2 w).le v hv⟩
theorem Le.cond {α : Type} {b : Bool} {x y x' y' : Option α} (h1 : Le x x') (h2 : Le y y') : Le (bif b then x else y) (bif b then x' else y') := by cases b; exact h2; exact h1
set_option maxRecDepth 100000 in
theorem chartularylaw04_nan.les (k : Nat) : (∀ a0, Le (chartularylaw04_nan.f k a0) (chartularylaw04_nan.f (k + 1) a0)) := by
  induction k with
  | zero => exact fun _ => Le.none _
  | succ k ih =>
    have h0 := ih
    exact fun _ => Le.refl _
set_option maxRecDepth 100000 in
theorem chartularylaw04_nan.le (k : Nat) : ∀ a0, Le (chartularylaw04_nan.f k a0) (chartularylaw04_nan.f (k + 1) a0) := chartularylaw04_nan.les k

set_option maxRecDepth 100000 in
theorem chartularylaw04_clean.les (k : Nat) : (∀ a0, Le (chartularylaw04_clean.f k a0) (chartularylaw04_clean.f (k + 1) a0)) := by
  induction k with
  | zero => exact fun _ => Le.none _
  | succ k ih =>
    have h0 := ih
    exact fun _ => Le.cond (Le.refl _) (Le.cond (Le.refl _) (Le.cond (Le.bind (chartularylaw04_nan.le ..) fun _ => Le.cond (Le.refl _) (Le.refl _)) (Le.cond (Le.refl _) (Le.refl _))))
set_option maxRecDepth 100000 in
theorem chartularylaw04_clean.le (k : Nat) : ∀ a0, Le (chartularylaw04_clean.f k a0) (chartularylaw04_clean.f (k + 1) a0) := chartularylaw04_clean.les k

set_option maxRecDepth 100000 in
theorem chartularylaw04_right.les (k : Nat) : (∀ a0, Le (chartularylaw04_right.f k a0) (chartularylaw04_right.f (k + 1) a0)) := by
  induction k with
  | zero => exact fun _ => Le.none _
  | succ k ih =>
    have h0 := ih
    exact fun _ => Le.cond (Le.cond (Le.bind (chartularylaw04_clean.le ..) fun _ => Le.cond (Le.refl _) (Le.refl _)) (Le.refl _)) (Le.refl _)
set_option maxRecDepth 100000 in
theorem chartularylaw04_right.le (k : Nat) : ∀ a0, Le (chartularylaw04_right.f k a0) (chartularylaw04_right.f (k + 1) a0) := chartularylaw04_right.les k

set_option maxRecDepth 100000 in
theorem value_Of.les (k : Nat) : (∀ a0, Le (value_Of.f k a0) (value_Of.f (k + 1) a0)) := by
  induction k with
  | zero => exact fun _ => Le.none _
  | succ k ih =>
    have h0 := ih
    exact fun _ => Le.refl _
set_option maxRecDepth 100000 in
theorem value_Of.le (k : Nat) : ∀ a0, Le (value_Of.f k a0) (value_Of.f (k + 1) a0) := value_Of.les k

set_option maxRecDepth 100000 in
theorem value_nan.les (k : Nat) : (∀ a0, Le (value_nan.f k a0) (value_nan.f (k + 1) a0)) := by
  induction k with
  | zero => exact fun _ => Le.none _
  | succ k ih =>
    have h0 := ih
    exact fun _ => Le.refl _
set_option maxRecDepth 100000 in
theorem value_nan.le (k : Nat) : ∀ a0, Le (value_nan.f k a0) (value_nan.f (k + 1) a0) := value_nan.les k

set_option maxRecDepth 100000 in
theorem value_Clean.les (k : Nat) : (∀ a0, Le (value_Clean.f k a0) (value_Clean.f (k + 1) a0)) := by
  induction k with
  | zero => exact fun _ => Le.none _
  | succ k ih =>
    have h0 := ih
    exact fun _ => Le.cond (Le.refl _) (Le.cond (Le.refl _) (Le.cond (Le.bind (value_nan.le ..) fun _ => Le.cond (Le.refl _) (Le.refl _)) (Le.cond (Le.refl _) (Le.refl _))))
set_option maxRecDepth 100000 in
theorem value_Clean.le (k : Nat) : ∀ a0, Le (value_Clean.f k a0) (value_Clean.f (k + 1) a0) := value_Clean.les k

set_option maxRecDepth 100000 in
theorem value_Right.les (k : Nat) : (∀ a0, Le (value_Right.f k a0) (value_Right.f (k + 1) a0)) := by
  induction k with
  | zero => exact fun _ => Le.none _
  | succ k ih =>
    have h0 := ih
    exact fun _ => Le.cond (Le.cond (Le.cond (Le.bind (value_Clean.le ..) fun _ => Le.refl _) (Le.refl _)) (Le.refl _)) (Le.refl _)
set_option maxRecDepth 100000 in
theorem value_Right.le (k : Nat) : ∀ a0, Le (value_Right.f k a0) (value_Right.f (k + 1) a0) := value_Right.les k

set_option maxRecDepth 100000 in
theorem octet_Num.les (k : Nat) : (∀ a0, Le (octet_Num.f k a0) (octet_Num.f (k + 1) a0)) ∧ (∀ a0 a1, Le (octet_Num.l0 k a0 a1) (octet_Num.l0 (k + 1) a0 a1)) := by
  induction k with
  | zero => exact ⟨fun _ => Le.none _, fun _ _ => Le.none _⟩
  | succ k ih =>
    obtain ⟨h0, h1⟩ := ih
    exact ⟨fun _ => Le.cond (Le.refl _) (Le.cond (Le.refl _) (h1 ..)), fun _ _ => Le.cond (Le.bind (Le.refl _) fun _ => (by first | exact Le.bind (Le.refl _) (fun _ => h1 ..) | exact h1 ..)) (Le.bind (Le.refl _) fun _ => Le.refl _)⟩
set_option maxRecDepth 100000 in
theorem octet_Num.le (k : Nat) : ∀ a0, Le (octet_Num.f k a0) (octet_Num.f (k + 1) a0) := (octet_Num.les k).1

set_option maxRecDepth 100000 in
theorem octet_Writer_Num.les (k : Nat) : (∀ a0 a1 a2, Le (octet_Writer_Num.f k a0 a1 a2) (octet_Writer_Num.f (k + 1) a0 a1 a2)) := by
  induction k with
  | zero => exact fun _ _ _ => Le.none _
  | succ k ih =>
    have h0 := ih
    exact fun _ _ _ => Le.bind (octet_Num.le ..) fun _ => Le.cond (Le.bind (Le.refl _) fun _ => Le.refl _) (Le.bind (Le.refl _) fun _ => Le.refl _)
set_option maxRecDepth 100000 in
theorem octet_Writer_Num.le (k : Nat) : ∀ a0 a1 a2, Le (octet_Writer_Num.f k a0 a1 a2) (octet_Writer_Num.f (k + 1) a0 a1 a2) := octet_Writer_Num.les k

set_option maxRecDepth 100000 in
theorem octet_Writer_Flag.les (k : Nat) : (∀ a0 a1 a2, Le (octet_Writer_Flag.f k a0 a1 a2) (octet_Writer_Flag.f (k + 1) a0 a1 a2)) := by
  induction k with
  | zero => exact fun _ _ _ => Le.none _
  | succ k ih =>
    have h0 := ih
    exact fun _ _ _ => Le.refl _
set_option maxRecDepth 100000 in
theorem octet_Writer_Flag.le (k : Nat) : ∀ a0 a1 a2, Le (octet_Writer_Flag.f k a0 a1 a2) (octet_Writer_Flag.f (k + 1) a0 a1 a2) := octet_Writer_Flag.les k

set_option maxRecDepth 100000 in
theorem octet_Writer_Raw.les (k : Nat) : (∀ a0 a1 a2, Le (octet_Writer_Raw.f k a0 a1 a2) (octet_Writer_Raw.f (k + 1) a0 a1 a2)) := by
  induction k with
  | zero => exact fun _ _ _ => Le.none _
  | succ k ih =>
    have h0 := ih
    exact fun _ _ _ => Le.refl _
set_option maxRecDepth 100000 in
theorem octet_Writer_Raw.le (k : Nat) : ∀ a0 a1 a2, Le (octet_Writer_Raw.f k a0 a1 a2) (octet_Writer_Raw.f (k + 1) a0 a1 a2) := octet_Writer_Raw.les k

set_option maxRecDepth 100000 in
theorem value_eight.les (k : Nat) : (∀ a0, Le (value_eight.f k a0) (value_eight.f (k + 1) a0)) ∧ (∀ a0 a1 a2 a3, Le (value_eight.l0 k a0 a1 a2 a3) (value_eight.l0 (k + 1) a0 a1 a2 a3)) := by
  induction k with
  | zero => exact ⟨fun _ => Le.none _, fun _ _ _ _ => Le.none _⟩
  | succ k ih =>
    obtain ⟨h0, h1⟩ := ih
    exact ⟨fun _ => (by first | exact Le.bind (Le.refl _) (fun _ => h1 ..) | exact h1 ..), fun _ _ _ _ => Le.cond (Le.bind (Le.refl _) fun _ => Le.bind (Le.refl _) fun _ => h1 ..) (Le.refl _)⟩
set_option maxRecDepth 100000 in
theorem value_eight.le (k : Nat) : ∀ a0, Le (value_eight.f k a0) (value_eight.f (k + 1) a0) := (value_eight.les k).1

set_option maxRecDepth 100000 in
theorem octet_Text.les (k : Nat) : (∀ a0, Le (octet_Text.f k a0) (octet_Text.f (k + 1) a0)) := by
  induction k with
  | zero => exact fun _ => Le.none _
  | succ k ih =>
    have h0 := ih
    exact fun _ => Le.bind (octet_Num.le ..) fun _ => Le.bind (Le.refl _) fun _ => Le.refl _
set_option maxRecDepth 100000 in
theorem octet_Text.le (k : Nat) : ∀ a0, Le (octet_Text.f k a0) (octet_Text.f (k + 1) a0) := octet_Text.les k

set_option maxRecDepth 100000 in
theorem octet_Writer_Text.les (k : Nat) : (∀ a0 a1 a2, Le (octet_Writer_Text.f k a0 a1 a2) (octet_Writer_Text.f (k + 1) a0 a1 a2)) := by
  induction k with
  | zero => exact fun _ _ _ => Le.none _
  | succ k ih =>
    have h0 := ih
    exact fun _ _ _ => Le.bind (octet_Text.le ..) fun _ => Le.bind (Le.refl _) fun _ => Le.refl _
set_option maxRecDepth 100000 in
theorem octet_Writer_Text.le (k : Nat) : ∀ a0 a1 a2, Le (octet_Writer_Text.f k a0 a1 a2) (octet_Writer_Text.f (k + 1) a0 a1 a2) := octet_Writer_Text.les k

set_option maxRecDepth 100000 in
theorem octet_Writer_All.les (k : Nat) : (∀ a0 a1, Le (octet_Writer_All.f k a0 a1) (octet_Writer_All.f (k + 1) a0 a1)) := by
  induction k with
  | zero => exact fun _ _ => Le.none _
  | succ k ih =>
    have h0 := ih
    exact fun _ _ => Le.refl _
set_option maxRecDepth 100000 in
theorem octet_Writer_All.le (k : Nat) : ∀ a0 a1, Le (octet_Writer_All.f k a0 a1) (octet_Writer_All.f (k + 1) a0 a1) := octet_Writer_All.les k

set_option maxRecDepth 100000 in
theorem value_Bytes.les (k : Nat) : (∀ a0, Le (value_Bytes.f k a0) (value_Bytes.f (k + 1) a0)) ∧ (∀ a0 a1, Le (value_Bytes.j0 k a0 a1) (value_Bytes.j0 (k + 1) a0 a1)) := by
  induction k with
  | zero => exact ⟨fun _ => Le.none _, fun _ _ => Le.none _⟩
  | succ k ih =>
    obtain ⟨h0, h1⟩ := ih
    exact ⟨fun _ => Le.bind (value_Right.le ..) fun _ => Le.cond (Le.refl _) (Le.bind (octet_Writer_Num.le ..) fun _ => Le.cond (Le.bind (octet_Writer_Flag.le ..) fun _ => h1 ..) (Le.cond (Le.bind (value_eight.le ..) fun _ => Le.bind (octet_Writer_Raw.le ..) fun _ => h1 ..) (Le.cond (Le.bind (value_eight.le ..) fun _ => Le.bind (octet_Writer_Raw.le ..) fun _ => h1 ..) (Le.cond (Le.bind (octet_Writer_Text.le ..) fun _ => h1 ..) (h1 ..))))), fun _ _ => Le.bind (octet_Writer_All.le ..) fun _ => Le.refl _⟩
set_option maxRecDepth 100000 in
theorem value_Bytes.le (k : Nat) : ∀ a0, Le (value_Bytes.f k a0) (value_Bytes.f (k + 1) a0) := (value_Bytes.les k).1

set_option maxRecDepth 100000 in
theorem chartularylaw04_awake.les (k : Nat) : (Le (chartularylaw04_awake.f k) (chartularylaw04_awake.f (k + 1))) := by
  induction k with
  | zero => exact Le.none _
  | succ k ih =>
    have h0 := ih
    exact Le.bind (value_Of.le ..) fun _ => Le.bind (value_Bytes.le ..) fun _ => Le.refl _
set_option maxRecDepth 100000 in
theorem chartularylaw04_awake.le (k : Nat) : Le (chartularylaw04_awake.f k) (chartularylaw04_awake.f (k + 1)) := chartularylaw04_awake.les k

set_option maxRecDepth 100000 in
theorem value_Float.les (k : Nat) : (∀ a0, Le (value_Float.f k a0) (value_Float.f (k + 1) a0)) := by
  induction k with
  | zero => exact fun _ => Le.none _
  | succ k ih =>
    have h0 := ih
    exact fun _ => Le.cond (Le.refl _) (Le.bind (value_Right.le ..) fun _ => Le.cond (Le.refl _) (Le.bind (Le.eqv (by rfl)) fun _ => Le.refl _))
set_option maxRecDepth 100000 in
theorem value_Float.le (k : Nat) : ∀ a0, Le (value_Float.f k a0) (value_Float.f (k + 1) a0) := value_Float.les k

set_option maxRecDepth 100000 in
theorem value_Worth.les (k : Nat) : (∀ a0 a1, Le (value_Worth.f k a0 a1) (value_Worth.f (k + 1) a0 a1)) := by
  induction k with
  | zero => exact fun _ _ => Le.none _
  | succ k ih =>
    have h0 := ih
    exact fun _ _ => Le.bind (value_Float.le ..) fun _ => Le.bind (value_Float.le ..) fun _ => Le.cond (Le.cond (Le.refl _) (Le.refl _)) (Le.refl _)
set_option maxRecDepth 100000 in
theorem value_Worth.le (k : Nat) : ∀ a0 a1, Le (value_Worth.f k a0 a1) (value_Worth.f (k + 1) a0 a1) := value_Worth.les k

set_option maxRecDepth 100000 in
theorem math_Trunc.les (k : Nat) : (∀ a0, Le (math_Trunc.f k a0) (math_Trunc.f (k + 1) a0)) := by
  induction k with
  | zero => exact fun _ => Le.none _
  | succ k ih =>
    have h0 := ih
    exact fun _ => Le.refl _
set_option maxRecDepth 100000 in
theorem math_Trunc.le (k : Nat) : ∀ a0, Le (math_Trunc.f k a0) (math_Trunc.f (k + 1) a0) := math_Trunc.les k

set_option maxRecDepth 100000 in
theorem value_Whole.les (k : Nat) : (∀ a0, Le (value_Whole.f k a0) (value_Whole.f (k + 1) a0)) ∧ (∀ a0 a1 a2 a3 a4, Le (value_Whole.j0 k a0 a1 a2 a3 a4) (value_Whole.j0 (k + 1) a0 a1 a2 a3 a4)) := by
  induction k with
  | zero => exact ⟨fun _ => Le.none _, fun _ _ _ _ _ => Le.none _⟩
  | succ k ih =>
    obtain ⟨h0, h1⟩ := ih
    exact ⟨fun _ => Le.cond (Le.bind (value_Right.le ..) fun _ => Le.cond (Le.refl _) (h1 ..)) (h1 ..), fun _ _ _ _ _ => Le.bind (value_Float.le ..) fun _ => Le.cond (Le.refl _) (Le.cond (Le.refl _) (Le.cond (Le.refl _) (Le.bind (math_Trunc.le ..) fun _ => Le.cond (Le.refl _) (Le.bind (Le.refl _) fun _ => Le.refl _))))⟩
set_option maxRecDepth 100000 in
theorem value_Whole.le (k : Nat) : ∀ a0, Le (value_Whole.f k a0) (value_Whole.f (k + 1) a0) := (value_Whole.les k).1

set_option maxRecDepth 100000 in
theorem chartularylaw04_worth.les (k : Nat) : (∀ a0, Le (chartularylaw04_worth.f k a0) (chartularylaw04_worth.f (k + 1) a0)) ∧ (∀ a0 a1, Le (chartularylaw04_worth.j0 k a0 a1) (chartularylaw04_worth.j0 (k + 1) a0 a1)) := by
  induction k with
  | zero => exact ⟨fun _ => Le.none _, fun _ _ => Le.none _⟩
  | succ k ih =>
    obtain ⟨h0, h1⟩ := ih
    exact ⟨fun _ => (by first | exact Le.bind (Le.refl _) (fun _ => Le.cond (Le.refl _) ((by first | exact Le.bind (Le.refl _) (fun _ => Le.cond (Le.refl _) (Le.cond (Le.refl _) (Le.cond (Le.refl _) (Le.cond (Le.bind (Le.refl _) fun _ => Le.bind (Le.refl _) fun _ => Le.cond (Le.refl _) (Le.bind (Le.refl _) fun _ => h1 ..)) (Le.bind (Le.refl _) fun _ => h1 ..))))) | exact Le.cond (Le.refl _) (Le.cond (Le.refl _) (Le.cond (Le.refl _) (Le.cond (Le.bind (Le.refl _) fun _ => Le.bind (Le.refl _) fun _ => Le.cond (Le.refl _) (Le.bind (Le.refl _) fun _ => h1 ..)) (Le.bind (Le.refl _) fun _ => h1 ..))))))) | exact Le.cond (Le.refl _) ((by first | exact Le.bind (Le.refl _) (fun _ => Le.cond (Le.refl _) (Le.cond (Le.refl _) (Le.cond (Le.refl _) (Le.cond (Le.bind (Le.refl _) fun _ => Le.bind (Le.refl _) fun _ => Le.cond (Le.refl _) (Le.bind (Le.refl _) fun _ => h1 ..)) (Le.bind (Le.refl _) fun _ => h1 ..))))) | exact Le.cond (Le.refl _) (Le.cond (Le.refl _) (Le.cond (Le.refl _) (Le.cond (Le.bind (Le.refl _) fun _ => Le.bind (Le.refl _) fun _ => Le.cond (Le.refl _) (Le.bind (Le.refl _) fun _ => h1 ..)) (Le.bind (Le.refl _) fun _ => h1 ..))))))), fun _ _ => Le.refl _⟩
set_option maxRecDepth 100000 in
theorem chartularylaw04_worth.le (k : Nat) : ∀ a0, Le (chartularylaw04_worth.f k a0) (chartularylaw04_worth.f (k + 1) a0) := (chartularylaw04_worth.les k).1

set_option maxRecDepth 100000 in
theorem chartularylaw04_ValueWorths.les (k : Nat) : (∀ a0 a1, Le (chartularylaw04_ValueWorths.f k a0 a1) (chartularylaw04_ValueWorths.f (k + 1) a0 a1)) ∧ (∀ a0 a1 a2 a3 a4 a5 a6 a7 a8 a9, Le (chartularylaw04_ValueWorths.j0 k a0 a1 a2 a3 a4 a5 a6 a7 a8 a9) (chartularylaw04_ValueWorths.j0 (k + 1) a0 a1 a2 a3 a4 a5 a6 a7 a8 a9)) ∧ (∀ a0 a1 a2 a3 a4 a5 a6 a7 a8 a9 a10, Le (chartularylaw04_ValueWorths.j1 k a0 a1 a2 a3 a4 a5 a6 a7 a8 a9 a10) (chartularylaw04_ValueWorths.j1 (k + 1) a0 a1 a2 a3 a4 a5 a6 a7 a8 a9 a10)) := by
  induction k with
  | zero => exact ⟨fun _ _ => Le.none _, fun _ _ _ _ _ _ _ _ _ _ => Le.none _, fun _ _ _ _ _ _ _ _ _ _ _ => Le.none _⟩
  | succ k ih =>
    obtain ⟨h0, h1, h2⟩ := ih
    exact ⟨fun _ _ => Le.cond (Le.bind (chartularylaw04_awake.le ..) fun _ => Le.refl _) (Le.cond (Le.bind (chartularylaw04_awake.le ..) fun _ => Le.refl _) (h1 ..)), fun _ _ _ _ _ _ _ _ _ _ => Le.bind (chartularylaw04_right.le ..) fun _ => Le.cond (Le.bind (chartularylaw04_right.le ..) fun _ => Le.cond (Le.cond (Le.cond (Le.bind (chartularylaw04_nan.le ..) fun _ => Le.cond (Le.bind (chartularylaw04_nan.le ..) fun _ => h2 ..) (h2 ..)) (h2 ..)) (h2 ..)) (h2 ..)) (h2 ..), fun _ _ _ _ _ _ _ _ _ _ _ => Le.bind (value_Worth.le ..) fun _ => Le.cond (Le.cond (Le.cond (Le.refl _) (Le.bind (value_Whole.le ..) fun _ => Le.bind (chartularylaw04_right.le ..) fun _ => Le.cond (Le.cond (Le.cond (Le.cond (Le.bind (chartularylaw04_awake.le ..) fun _ => Le.refl _) (Le.refl _)) (Le.refl _)) (Le.bind (chartularylaw04_right.le ..) fun _ => Le.cond (Le.cond (Le.cond (Le.bind (chartularylaw04_awake.le ..) fun _ => Le.refl _) (Le.refl _)) (Le.refl _)) (Le.cond (Le.cond (Le.cond (Le.bind (chartularylaw04_awake.le ..) fun _ => Le.refl _) (Le.refl _)) (Le.refl _)) (Le.bind (chartularylaw04_worth.le ..) fun _ => Le.cond (Le.cond (Le.bind (chartularylaw04_awake.le ..) fun _ => Le.refl _) (Le.refl _)) (Le.refl _))))) (Le.bind (chartularylaw04_right.le ..) fun _ => Le.cond (Le.cond (Le.cond (Le.bind (chartularylaw04_awake.le ..) fun _ => Le.refl _) (Le.refl _)) (Le.refl _)) (Le.cond (Le.cond (Le.cond (Le.bind (chartularylaw04_awake.le ..) fun _ => Le.refl _) (Le.refl _)) (Le.refl _)) (Le.bind (chartularylaw04_worth.le ..) fun _ => Le.cond (Le.cond (Le.bind (chartularylaw04_awake.le ..) fun _ => Le.refl _) (Le.refl _)) (Le.refl _)))))) ((by first | exact Le.bind (Le.refl _) (fun _ => Le.cond ((by first | exact Le.bind (Le.refl _) (fun _ => Le.cond (Le.refl _) (Le.bind (value_Whole.le ..) fun _ => Le.bind (chartularylaw04_right.le ..) fun _ => Le.cond (Le.cond (Le.cond (Le.cond (Le.bind (chartularylaw04_awake.le ..) fun _ => Le.refl _) (Le.refl _)) (Le.refl _)) (Le.bind (chartularylaw04_right.le ..) fun _ => Le.cond (Le.cond (Le.cond (Le.bind (chartularylaw04_awake.le ..) fun _ => Le.refl _) (Le.refl _)) (Le.refl _)) (Le.cond (Le.cond (Le.cond (Le.bind (chartularylaw04_awake.le ..) fun _ => Le.refl _) (Le.refl _)) (Le.refl _)) (Le.bind (chartularylaw04_worth.le ..) fun _ => Le.cond (Le.cond (Le.bind (chartularylaw04_awake.le ..) fun _ => Le.refl _) (Le.refl _)) (Le.refl _))))) (Le.bind (chartularylaw04_right.le ..) fun _ => Le.cond (Le.cond (Le.cond (Le.bind (chartularylaw04_awake.le ..) fun _ => Le.refl _) (Le.refl _)) (Le.refl _)) (Le.cond (Le.cond (Le.cond (Le.bind (chartularylaw04_awake.le ..) fun _ => Le.refl _) (Le.refl _)) (Le.refl _)) (Le.bind (chartularylaw04_worth.le ..) fun _ => Le.cond (Le.cond (Le.bind (chartularylaw04_awake.le ..) fun _ => Le.refl _) (Le.refl _)) (Le.refl _)))))) | exact Le.cond (Le.refl _) (Le.bind (value_Whole.le ..) fun _ => Le.bind (chartularylaw04_right.le ..) fun _ => Le.cond (Le.cond (Le.cond (Le.cond (Le.bind (chartularylaw04_awake.le ..) fun _ => Le.refl _) (Le.refl _)) (Le.refl _)) (Le.bind (chartularylaw04_right.le ..) fun _ => Le.cond (Le.cond (Le.cond (Le.bind (chartularylaw04_awake.le ..) fun _ => Le.refl _) (Le.refl _)) (Le.refl _)) (Le.cond (Le.cond (Le.cond (Le.bind (chartularylaw04_awake.le ..) fun _ => Le.refl _) (Le.refl _)) (Le.refl _)) (Le.bind (chartularylaw04_worth.le ..) fun _ => Le.cond (Le.cond (Le.bind (chartularylaw04_awake.le ..) fun _ => Le.refl _) (Le.refl _)) (Le.refl _))))) (Le.bind (chartularylaw04_right.le ..) fun _ => Le.cond (Le.cond (Le.cond (Le.bind (chartularylaw04_awake.le ..) fun _ => Le.refl _) (Le.refl _)) (Le.refl _)) (Le.cond (Le.cond (Le.cond (Le.bind (chartularylaw04_awake.le ..) fun _ => Le.refl _) (Le.refl _)) (Le.refl _)) (Le.bind (chartularylaw04_worth.le ..) fun _ => Le.cond (Le.cond (Le.bind (chartularylaw04_awake.le ..) fun _ => Le.refl _) (Le.refl _)) (Le.refl _))))))) (Le.cond (Le.refl _) (Le.bind (value_Whole.le ..) fun _ => Le.bind (chartularylaw04_right.le ..) fun _ => Le.cond (Le.cond (Le.cond (Le.cond (Le.bind (chartularylaw04_awake.le ..) fun _ => Le.refl _) (Le.refl _)) (Le.refl _)) (Le.bind (chartularylaw04_right.le ..) fun _ => Le.cond (Le.cond (Le.cond (Le.bind (chartularylaw04_awake.le ..) fun _ => Le.refl _) (Le.refl _)) (Le.refl _)) (Le.cond (Le.cond (Le.cond (Le.bind (chartularylaw04_awake.le ..) fun _ => Le.refl _) (Le.refl _)) (Le.refl _)) (Le.bind (chartularylaw04_worth.le ..) fun _ => Le.cond (Le.cond (Le.bind (chartularylaw04_awake.le ..) fun _ => Le.refl _) (Le.refl _)) (Le.refl _))))) (Le.bind (chartularylaw04_right.le ..) fun _ => Le.cond (Le.cond (Le.cond (Le.bind (chartularylaw04_awake.le ..) fun _ => Le.refl _) (Le.refl _)) (Le.refl _)) (Le.cond (Le.cond (Le.cond (Le.bind (chartularylaw04_awake.le ..) fun _ => Le.refl _) (Le.refl _)) (Le.refl _)) (Le.bind (chartularylaw04_worth.le ..) fun _ => Le.cond (Le.cond (Le.bind (chartularylaw04_awake.le ..) fun _ => Le.refl _) (Le.refl _)) (Le.refl _))))))) | exact Le.cond ((by first | exact Le.bind (Le.refl _) (fun _ => Le.cond (Le.refl _) (Le.bind (value_Whole.le ..) fun _ => Le.bind (chartularylaw04_right.le ..) fun _ => Le.cond (Le.cond (Le.cond (Le.cond (Le.bind (chartularylaw04_awake.le ..) fun _ => Le.refl _) (Le.refl _)) (Le.refl _)) (Le.bind (chartularylaw04_right.le ..) fun _ => Le.cond (Le.cond (Le.cond (Le.bind (chartularylaw04_awake.le ..) fun _ => Le.refl _) (Le.refl _)) (Le.refl _)) (Le.cond (Le.cond (Le.cond (Le.bind (chartularylaw04_awake.le ..) fun _ => Le.refl _) (Le.refl _)) (Le.refl _)) (Le.bind (chartularylaw04_worth.le ..) fun _ => Le.cond (Le.cond (Le.bind (chartularylaw04_awake.le ..) fun _ => Le.refl _) (Le.refl _)) (Le.refl _))))) (Le.bind (chartularylaw04_right.le ..) fun _ => Le.cond (Le.cond (Le.cond (Le.bind (chartularylaw04_awake.le ..) fun _ => Le.refl _) (Le.refl _)) (Le.refl _)) (Le.cond (Le.cond (Le.cond (Le.bind (chartularylaw04_awake.le ..) fun _ => Le.refl _) (Le.refl _)) (Le.refl _)) (Le.bind (chartularylaw04_worth.le ..) fun _ => Le.cond (Le.cond (Le.bind (chartularylaw04_awake.le ..) fun _ => Le.refl _) (Le.refl _)) (Le.refl _)))))) | exact Le.cond (Le.refl _) (Le.bind (value_Whole.le ..) fun _ => Le.bind (chartularylaw04_right.le ..) fun _ => Le.cond (Le.cond (Le.cond (Le.cond (Le.bind (chartularylaw04_awake.le ..) fun _ => Le.refl _) (Le.refl _)) (Le.refl _)) (Le.bind (chartularylaw04_right.le ..) fun _ => Le.cond (Le.cond (Le.cond (Le.bind (chartularylaw04_awake.le ..) fun _ => Le.refl _) (Le.refl _)) (Le.refl _)) (Le.cond (Le.cond (Le.cond (Le.bind (chartularylaw04_awake.le ..) fun _ => Le.refl _) (Le.refl _)) (Le.refl _)) (Le.bind (chartularylaw04_worth.le ..) fun _ => Le.cond (Le.cond (Le.bind (chartularylaw04_awake.le ..) fun _ => Le.refl _) (Le.refl _)) (Le.refl _))))) (Le.bind (chartularylaw04_right.le ..) fun _ => Le.cond (Le.cond (Le.cond (Le.bind (chartularylaw04_awake.le ..) fun _ => Le.refl _) (Le.refl _)) (Le.refl _)) (Le.cond (Le.cond (Le.cond (Le.bind (chartularylaw04_awake.le ..) fun _ => Le.refl _) (Le.refl _)) (Le.refl _)) (Le.bind (chartularylaw04_worth.le ..) fun _ => Le.cond (Le.cond (Le.bind (chartularylaw04_awake.le ..) fun _ => Le.refl _) (Le.refl _)) (Le.refl _))))))) (Le.cond (Le.refl _) (Le.bind (value_Whole.le ..) fun _ => Le.bind (chartularylaw04_right.le ..) fun _ => Le.cond (Le.cond (Le.cond (Le.cond (Le.bind (chartularylaw04_awake.le ..) fun _ => Le.refl _) (Le.refl _)) (Le.refl _)) (Le.bind (chartularylaw04_right.le ..) fun _ => Le.cond (Le.cond (Le.cond (Le.bind (chartularylaw04_awake.le ..) fun _ => Le.refl _) (Le.refl _)) (Le.refl _)) (Le.cond (Le.cond (Le.cond (Le.bind (chartularylaw04_awake.le ..) fun _ => Le.refl _) (Le.refl _)) (Le.refl _)) (Le.bind (chartularylaw04_worth.le ..) fun _ => Le.cond (Le.cond (Le.bind (chartularylaw04_awake.le ..) fun _ => Le.refl _) (Le.refl _)) (Le.refl _))))) (Le.bind (chartularylaw04_right.le ..) fun _ => Le.cond (Le.cond (Le.cond (Le.bind (chartularylaw04_awake.le ..) fun _ => Le.refl _) (Le.refl _)) (Le.refl _)) (Le.cond (Le.cond (Le.cond (Le.bind (chartularylaw04_awake.le ..) fun _ => Le.refl _) (Le.refl _)) (Le.refl _)) (Le.bind (chartularylaw04_worth.le ..) fun _ => Le.cond (Le.cond (Le.bind (chartularylaw04_awake.le ..) fun _ => Le.refl _) (Le.refl _)) (Le.refl _))))))))) (Le.cond (Le.refl _) (Le.bind (value_Whole.le ..) fun _ => Le.bind (chartularylaw04_right.le ..) fun _ => Le.cond (Le.cond (Le.cond (Le.cond (Le.bind (chartularylaw04_awake.le ..) fun _ => Le.refl _) (Le.refl _)) (Le.refl _)) (Le.bind (chartularylaw04_right.le ..) fun _ => Le.cond (Le.cond (Le.cond (Le.bind (chartularylaw04_awake.le ..) fun _ => Le.refl _) (Le.refl _)) (Le.refl _)) (Le.cond (Le.cond (Le.cond (Le.bind (chartularylaw04_awake.le ..) fun _ => Le.refl _) (Le.refl _)) (Le.refl _)) (Le.bind (chartularylaw04_worth.le ..) fun _ => Le.cond (Le.cond (Le.bind (chartularylaw04_awake.le ..) fun _ => Le.refl _) (Le.refl _)) (Le.refl _))))) (Le.bind (chartularylaw04_right.le ..) fun _ => Le.cond (Le.cond (Le.cond (Le.bind (chartularylaw04_awake.le ..) fun _ => Le.refl _) (Le.refl _)) (Le.refl _)) (Le.cond (Le.cond (Le.cond (Le.bind (chartularylaw04_awake.le ..) fun _ => Le.refl _) (Le.refl _)) (Le.refl _)) (Le.bind (chartularylaw04_worth.le ..) fun _ => Le.cond (Le.cond (Le.bind (chartularylaw04_awake.le ..) fun _ => Le.refl _) (Le.refl _)) (Le.refl _))))))⟩
set_option maxRecDepth 100000 in
theorem chartularylaw04_ValueWorths.le (k : Nat) : ∀ a0 a1, Le (chartularylaw04_ValueWorths.f k a0 a1) (chartularylaw04_ValueWorths.f (k + 1) a0 a1) := (chartularylaw04_ValueWorths.les k).1

end Go.Proofs.Ytnedfkfelagmpaa.E
