/- Laid by gen.py: with more rounds the functions come to the same. -/
import Derived.Test.YtfbpkpnnglhbcaaEDefs
namespace Go.Proofs.Ytfbpkpnnglhbcaa.E
open Go Go.Proofs.Ytfbpkpnnglhbcaa.Eng
set_option linter.unusedVariables false
/-- What the one comes to, the other comes to. -/
structure Le {α : Type} (x y : Option α) : Prop where
  le : ∀ v, x = some v → y = some v
theorem Le.refl {α : Type} (x : Option α) : Le x x := ⟨fun _ h => h⟩
theorem Le.eqv {α : Type} {x y : Option α} (h : x = y) : Le x y := h ▸ Le.refl x
theorem Le.none {α : Type} (y : Option α) : Le none y := ⟨fun _ h => by cases h⟩
theorem Le.bind {α β : Type} {x y : Option α} {g h : α → Option β} (h1 : Le x y) (h2 : ∀ v, Le (g v) (h v)) : Le (x.bind g) (y.bind h) := ⟨fun v hv => by
  cases hx : x with
  | none => rw [hx] at hv; cases hv
  | some w => rw [hx] at hv; rw [h1.le w hx]; exact (h2 w).le v hv⟩
theorem Le.both {α : Type} {x y x' y' : Option α} (h1 : Le x x') (h2 : Le y y') : Le (bothE x y) (bothE x' y') := ⟨fun v hv => by
  obtain ⟨e1, e2⟩ := bothE_some hv
  rw [h1.le v e1, h2.le v e2]; exact bothE_same _⟩
theorem Le.cond {α : Type} {b : Bool} {x y x' y' : Option α} (h1 : Le x x') (h2 : Le y y') : Le (bif b then x else y) (bif b then x' else y') := by cases b; exact h2; exact h1
set_option maxRecDepth 100000 in
theorem mill_New.les (k : Nat) : (Le (mill_New.f k) (mill_New.f (k + 1))) := by
  induction k with
  | zero => exact Le.none _
  | succ k ih =>
    have h0 := ih
    exact Le.refl _
set_option maxRecDepth 100000 in
theorem mill_New.le (k : Nat) : Le (mill_New.f k) (mill_New.f (k + 1)) := mill_New.les k

set_option maxRecDepth 100000 in
theorem auditor_New.les (k : Nat) : (∀ a0 a1 a2 a3 a4 a5, Le (auditor_New.f k a0 a1 a2 a3 a4 a5) (auditor_New.f (k + 1) a0 a1 a2 a3 a4 a5)) := by
  induction k with
  | zero => exact fun _ _ _ _ _ _ => Le.none _
  | succ k ih =>
    have h0 := ih
    exact fun _ _ _ _ _ _ => Le.refl _
set_option maxRecDepth 100000 in
theorem auditor_New.le (k : Nat) : ∀ a0 a1 a2 a3 a4 a5, Le (auditor_New.f k a0 a1 a2 a3 a4 a5) (auditor_New.f (k + 1) a0 a1 a2 a3 a4 a5) := auditor_New.les k

set_option maxRecDepth 100000 in
theorem gossip_New_v0.les (k : Nat) : (∀ a0 a1 a2 a3 a4 a5, Le (gossip_New_v0.f k a0 a1 a2 a3 a4 a5) (gossip_New_v0.f (k + 1) a0 a1 a2 a3 a4 a5)) ∧ (∀ a0 a1 a2 a3 a4 a5 a6, Le (gossip_New_v0.l0 k a0 a1 a2 a3 a4 a5 a6) (gossip_New_v0.l0 (k + 1) a0 a1 a2 a3 a4 a5 a6)) ∧ (∀ a0 a1 a2 a3 a4 a5 a6 a7 a8 a9, Le (gossip_New_v0.l1 k a0 a1 a2 a3 a4 a5 a6 a7 a8 a9) (gossip_New_v0.l1 (k + 1) a0 a1 a2 a3 a4 a5 a6 a7 a8 a9)) ∧ (∀ a0 a1 a2 a3 a4 a5 a6 a7 a8 a9 a10 a11 a12, Le (gossip_New_v0.l2 k a0 a1 a2 a3 a4 a5 a6 a7 a8 a9 a10 a11 a12) (gossip_New_v0.l2 (k + 1) a0 a1 a2 a3 a4 a5 a6 a7 a8 a9 a10 a11 a12)) := by
  induction k with
  | zero => exact ⟨fun _ _ _ _ _ _ => Le.none _, fun _ _ _ _ _ _ _ => Le.none _, fun _ _ _ _ _ _ _ _ _ _ => Le.none _, fun _ _ _ _ _ _ _ _ _ _ _ _ _ => Le.none _⟩
  | succ k ih =>
    obtain ⟨h0, h1, h2, h3⟩ := ih
    exact ⟨fun _ _ _ _ _ _ => h1 .., fun _ _ _ _ _ _ _ => Le.bind (x := auditor_New.f k _ _ _ _ _ _) (y := auditor_New.f (k + 1) _ _ _ _ _ _) (auditor_New.le ..) fun _ => h2 .., fun _ _ _ _ _ _ _ _ _ _ => Le.bind (x := auditor_New.f k _ _ _ _ _ _) (y := auditor_New.f (k + 1) _ _ _ _ _ _) (auditor_New.le ..) fun _ => h3 .., fun _ _ _ _ _ _ _ _ _ _ _ _ _ => Le.refl _⟩
set_option maxRecDepth 100000 in
theorem gossip_New_v0.le (k : Nat) : ∀ a0 a1 a2 a3 a4 a5, Le (gossip_New_v0.f k a0 a1 a2 a3 a4 a5) (gossip_New_v0.f (k + 1) a0 a1 a2 a3 a4 a5) := (gossip_New_v0.les k).1

set_option maxRecDepth 100000 in
theorem gossip_Ring_Forks_v0.les (k : Nat) : (∀ a0 a1 a2 a3 a4 a5 a6 a7 a8 a9 a10 a11 a12, Le (gossip_Ring_Forks_v0.f k a0 a1 a2 a3 a4 a5 a6 a7 a8 a9 a10 a11 a12) (gossip_Ring_Forks_v0.f (k + 1) a0 a1 a2 a3 a4 a5 a6 a7 a8 a9 a10 a11 a12)) := by
  induction k with
  | zero => exact fun _ _ _ _ _ _ _ _ _ _ _ _ _ => Le.none _
  | succ k ih =>
    have h0 := ih
    exact fun _ _ _ _ _ _ _ _ _ _ _ _ _ => Le.refl _
set_option maxRecDepth 100000 in
theorem gossip_Ring_Forks_v0.le (k : Nat) : ∀ a0 a1 a2 a3 a4 a5 a6 a7 a8 a9 a10 a11 a12, Le (gossip_Ring_Forks_v0.f k a0 a1 a2 a3 a4 a5 a6 a7 a8 a9 a10 a11 a12) (gossip_Ring_Forks_v0.f (k + 1) a0 a1 a2 a3 a4 a5 a6 a7 a8 a9 a10 a11 a12) := gossip_Ring_Forks_v0.les k

set_option maxRecDepth 100000 in
theorem gossip_Compare.les (k : Nat) : (∀ a0 a1, Le (gossip_Compare.f k a0 a1) (gossip_Compare.f (k + 1) a0 a1)) ∧ (∀ a0 a1 a2 a3 a4 a5 a6 a7 a8 a9, Le (gossip_Compare.l0 k a0 a1 a2 a3 a4 a5 a6 a7 a8 a9) (gossip_Compare.l0 (k + 1) a0 a1 a2 a3 a4 a5 a6 a7 a8 a9)) ∧ (∀ a0 a1 a2 a3 a4 a5 a6 a7 a8 a9 a10 a11 a12 a13 a14, Le (gossip_Compare.l1 k a0 a1 a2 a3 a4 a5 a6 a7 a8 a9 a10 a11 a12 a13 a14) (gossip_Compare.l1 (k + 1) a0 a1 a2 a3 a4 a5 a6 a7 a8 a9 a10 a11 a12 a13 a14)) := by
  induction k with
  | zero => exact ⟨fun _ _ => Le.none _, fun _ _ _ _ _ _ _ _ _ _ => Le.none _, fun _ _ _ _ _ _ _ _ _ _ _ _ _ _ _ => Le.none _⟩
  | succ k ih =>
    obtain ⟨h0, h1, h2⟩ := ih
    exact ⟨fun _ _ => h1 .., fun _ _ _ _ _ _ _ _ _ _ => Le.cond (Le.bind (Le.refl _) fun _ => h2 ..) (Le.refl _), fun _ _ _ _ _ _ _ _ _ _ _ _ _ _ _ => Le.cond (Le.bind (Le.refl _) fun _ => Le.cond (h2 ..) (Le.cond (h2 ..) (Le.cond (h2 ..) (h2 ..)))) (h1 ..)⟩
set_option maxRecDepth 100000 in
theorem gossip_Compare.le (k : Nat) : ∀ a0 a1, Le (gossip_Compare.f k a0 a1) (gossip_Compare.f (k + 1) a0 a1) := (gossip_Compare.les k).1

set_option maxRecDepth 100000 in
theorem auditor_Auditor_none.les (k : Nat) : (∀ a0 a1 a2 a3 a4 a5 a6 a7 a8, Le (auditor_Auditor_none.f k a0 a1 a2 a3 a4 a5 a6 a7 a8) (auditor_Auditor_none.f (k + 1) a0 a1 a2 a3 a4 a5 a6 a7 a8)) := by
  induction k with
  | zero => exact fun _ _ _ _ _ _ _ _ _ => Le.none _
  | succ k ih =>
    have h0 := ih
    exact fun _ _ _ _ _ _ _ _ _ => Le.refl _
set_option maxRecDepth 100000 in
theorem auditor_Auditor_none.le (k : Nat) : ∀ a0 a1 a2 a3 a4 a5 a6 a7 a8, Le (auditor_Auditor_none.f k a0 a1 a2 a3 a4 a5 a6 a7 a8) (auditor_Auditor_none.f (k + 1) a0 a1 a2 a3 a4 a5 a6 a7 a8) := auditor_Auditor_none.les k

set_option maxRecDepth 100000 in
theorem slices_Clone_api_Point.les (k : Nat) : (∀ a0, Le (slices_Clone_api_Point.f k a0) (slices_Clone_api_Point.f (k + 1) a0)) := by
  induction k with
  | zero => exact fun _ => Le.none _
  | succ k ih =>
    have h0 := ih
    exact fun _ => Le.refl _
set_option maxRecDepth 100000 in
theorem slices_Clone_api_Point.le (k : Nat) : ∀ a0, Le (slices_Clone_api_Point.f k a0) (slices_Clone_api_Point.f (k + 1) a0) := slices_Clone_api_Point.les k

set_option maxRecDepth 100000 in
theorem auditor_Auditor_Points.les (k : Nat) : (∀ a0 a1 a2 a3 a4 a5 a6 a7 a8, Le (auditor_Auditor_Points.f k a0 a1 a2 a3 a4 a5 a6 a7 a8) (auditor_Auditor_Points.f (k + 1) a0 a1 a2 a3 a4 a5 a6 a7 a8)) := by
  induction k with
  | zero => exact fun _ _ _ _ _ _ _ _ _ => Le.none _
  | succ k ih =>
    have h0 := ih
    exact fun _ _ _ _ _ _ _ _ _ => Le.bind (auditor_Auditor_none.le ..) fun _ => Le.cond (Le.refl _) (Le.bind (slices_Clone_api_Point.le ..) fun _ => Le.refl _)
set_option maxRecDepth 100000 in
theorem auditor_Auditor_Points.le (k : Nat) : ∀ a0 a1 a2 a3 a4 a5 a6 a7 a8, Le (auditor_Auditor_Points.f k a0 a1 a2 a3 a4 a5 a6 a7 a8) (auditor_Auditor_Points.f (k + 1) a0 a1 a2 a3 a4 a5 a6 a7 a8) := auditor_Auditor_Points.les k

set_option maxRecDepth 100000 in
theorem gossip_Ring_Agree_v0.les (k : Nat) : (∀ a0 a1 a2 a3 a4 a5 a6 a7 a8 a9 a10 a11 a12, Le (gossip_Ring_Agree_v0.f k a0 a1 a2 a3 a4 a5 a6 a7 a8 a9 a10 a11 a12) (gossip_Ring_Agree_v0.f (k + 1) a0 a1 a2 a3 a4 a5 a6 a7 a8 a9 a10 a11 a12)) ∧ (∀ a0 a1 a2 a3 a4 a5 a6 a7 a8 a9 a10 a11 a12, Le (gossip_Ring_Agree_v0.l0 k a0 a1 a2 a3 a4 a5 a6 a7 a8 a9 a10 a11 a12) (gossip_Ring_Agree_v0.l0 (k + 1) a0 a1 a2 a3 a4 a5 a6 a7 a8 a9 a10 a11 a12)) ∧ (∀ a0 a1 a2 a3 a4 a5 a6 a7 a8 a9 a10 a11 a12, Le (gossip_Ring_Agree_v0.l1 k a0 a1 a2 a3 a4 a5 a6 a7 a8 a9 a10 a11 a12) (gossip_Ring_Agree_v0.l1 (k + 1) a0 a1 a2 a3 a4 a5 a6 a7 a8 a9 a10 a11 a12)) ∧ (∀ a0 a1 a2 a3 a4 a5 a6 a7 a8 a9 a10 a11 a12, Le (gossip_Ring_Agree_v0.l2 k a0 a1 a2 a3 a4 a5 a6 a7 a8 a9 a10 a11 a12) (gossip_Ring_Agree_v0.l2 (k + 1) a0 a1 a2 a3 a4 a5 a6 a7 a8 a9 a10 a11 a12)) ∧ (∀ a0 a1 a2 a3 a4 a5 a6 a7 a8 a9 a10 a11 a12, Le (gossip_Ring_Agree_v0.l3 k a0 a1 a2 a3 a4 a5 a6 a7 a8 a9 a10 a11 a12) (gossip_Ring_Agree_v0.l3 (k + 1) a0 a1 a2 a3 a4 a5 a6 a7 a8 a9 a10 a11 a12)) ∧ (∀ a0 a1 a2 a3 a4 a5 a6 a7 a8 a9 a10 a11 a12, Le (gossip_Ring_Agree_v0.l5 k a0 a1 a2 a3 a4 a5 a6 a7 a8 a9 a10 a11 a12) (gossip_Ring_Agree_v0.l5 (k + 1) a0 a1 a2 a3 a4 a5 a6 a7 a8 a9 a10 a11 a12)) ∧ (∀ a0 a1 a2 a3 a4 a5 a6 a7 a8 a9 a10 a11 a12, Le (gossip_Ring_Agree_v0.l4 k a0 a1 a2 a3 a4 a5 a6 a7 a8 a9 a10 a11 a12) (gossip_Ring_Agree_v0.l4 (k + 1) a0 a1 a2 a3 a4 a5 a6 a7 a8 a9 a10 a11 a12)) := by
  induction k with
  | zero => exact ⟨fun _ _ _ _ _ _ _ _ _ _ _ _ _ => Le.none _, fun _ _ _ _ _ _ _ _ _ _ _ _ _ => Le.none _, fun _ _ _ _ _ _ _ _ _ _ _ _ _ => Le.none _, fun _ _ _ _ _ _ _ _ _ _ _ _ _ => Le.none _, fun _ _ _ _ _ _ _ _ _ _ _ _ _ => Le.none _, fun _ _ _ _ _ _ _ _ _ _ _ _ _ => Le.none _, fun _ _ _ _ _ _ _ _ _ _ _ _ _ => Le.none _⟩
  | succ k ih =>
    obtain ⟨h0, h1, h2, h3, h4, h5, h6⟩ := ih
    exact ⟨fun _ _ _ _ _ _ _ _ _ _ _ _ _ => h1 .., fun _ _ _ _ _ _ _ _ _ _ _ _ _ => h2 .., fun _ _ _ _ _ _ _ _ _ _ _ _ _ => h3 .., fun _ _ _ _ _ _ _ _ _ _ _ _ _ => h4 .., fun _ _ _ _ _ _ _ _ _ _ _ _ _ => Le.bind (x := auditor_Auditor_Points.f k _ _ _ _ _ _ _ _ _) (y := auditor_Auditor_Points.f (k + 1) _ _ _ _ _ _ _ _ _) (auditor_Auditor_Points.le ..) fun _ => Le.bind (x := auditor_Auditor_Points.f k _ _ _ _ _ _ _ _ _) (y := auditor_Auditor_Points.f (k + 1) _ _ _ _ _ _ _ _ _) (auditor_Auditor_Points.le ..) fun _ => Le.bind (x := gossip_Compare.f k _ _) (y := gossip_Compare.f (k + 1) _ _) (gossip_Compare.le ..) fun _ => Le.cond (Le.refl _) (h6 ..), fun _ _ _ _ _ _ _ _ _ _ _ _ _ => Le.refl _, fun _ _ _ _ _ _ _ _ _ _ _ _ _ => h5 ..⟩
set_option maxRecDepth 100000 in
theorem gossip_Ring_Agree_v0.le (k : Nat) : ∀ a0 a1 a2 a3 a4 a5 a6 a7 a8 a9 a10 a11 a12, Le (gossip_Ring_Agree_v0.f k a0 a1 a2 a3 a4 a5 a6 a7 a8 a9 a10 a11 a12) (gossip_Ring_Agree_v0.f (k + 1) a0 a1 a2 a3 a4 a5 a6 a7 a8 a9 a10 a11 a12) := (gossip_Ring_Agree_v0.les k).1

set_option maxRecDepth 100000 in
theorem gossip_at_auditor_Auditor_v0.les (k : Nat) : (∀ a0 a1 a2 a3 a4 a5 a6 a7 a8 a9 a10 a11, Le (gossip_at_auditor_Auditor_v0.f k a0 a1 a2 a3 a4 a5 a6 a7 a8 a9 a10 a11) (gossip_at_auditor_Auditor_v0.f (k + 1) a0 a1 a2 a3 a4 a5 a6 a7 a8 a9 a10 a11)) := by
  induction k with
  | zero => exact fun _ _ _ _ _ _ _ _ _ _ _ _ => Le.none _
  | succ k ih =>
    have h0 := ih
    exact fun _ _ _ _ _ _ _ _ _ _ _ _ => Le.refl _
set_option maxRecDepth 100000 in
theorem gossip_at_auditor_Auditor_v0.le (k : Nat) : ∀ a0 a1 a2 a3 a4 a5 a6 a7 a8 a9 a10 a11, Le (gossip_at_auditor_Auditor_v0.f k a0 a1 a2 a3 a4 a5 a6 a7 a8 a9 a10 a11) (gossip_at_auditor_Auditor_v0.f (k + 1) a0 a1 a2 a3 a4 a5 a6 a7 a8 a9 a10 a11) := gossip_at_auditor_Auditor_v0.les k

set_option maxRecDepth 100000 in
theorem gossip_Ring_Auditor_v0.les (k : Nat) : (∀ a0 a1 a2 a3 a4 a5 a6 a7 a8 a9 a10 a11 a12, Le (gossip_Ring_Auditor_v0.f k a0 a1 a2 a3 a4 a5 a6 a7 a8 a9 a10 a11 a12) (gossip_Ring_Auditor_v0.f (k + 1) a0 a1 a2 a3 a4 a5 a6 a7 a8 a9 a10 a11 a12)) := by
  induction k with
  | zero => exact fun _ _ _ _ _ _ _ _ _ _ _ _ _ => Le.none _
  | succ k ih =>
    have h0 := ih
    exact fun _ _ _ _ _ _ _ _ _ _ _ _ _ => Le.bind (x := gossip_at_auditor_Auditor_v0.f k _ _ _ _ _ _ _ _ _ _ _ _) (y := gossip_at_auditor_Auditor_v0.f (k + 1) _ _ _ _ _ _ _ _ _ _ _ _) (gossip_at_auditor_Auditor_v0.le ..) fun _ => Le.refl _
set_option maxRecDepth 100000 in
theorem gossip_Ring_Auditor_v0.le (k : Nat) : ∀ a0 a1 a2 a3 a4 a5 a6 a7 a8 a9 a10 a11 a12, Le (gossip_Ring_Auditor_v0.f k a0 a1 a2 a3 a4 a5 a6 a7 a8 a9 a10 a11 a12) (gossip_Ring_Auditor_v0.f (k + 1) a0 a1 a2 a3 a4 a5 a6 a7 a8 a9 a10 a11 a12) := gossip_Ring_Auditor_v0.les k

set_option maxRecDepth 100000 in
theorem gossip_at_auditor_Auditor_v1.les (k : Nat) : (∀ a0 a1 a2 a3 a4 a5 a6 a7 a8 a9 a10 a11, Le (gossip_at_auditor_Auditor_v1.f k a0 a1 a2 a3 a4 a5 a6 a7 a8 a9 a10 a11) (gossip_at_auditor_Auditor_v1.f (k + 1) a0 a1 a2 a3 a4 a5 a6 a7 a8 a9 a10 a11)) := by
  induction k with
  | zero => exact fun _ _ _ _ _ _ _ _ _ _ _ _ => Le.none _
  | succ k ih =>
    have h0 := ih
    exact fun _ _ _ _ _ _ _ _ _ _ _ _ => Le.refl _
set_option maxRecDepth 100000 in
theorem gossip_at_auditor_Auditor_v1.le (k : Nat) : ∀ a0 a1 a2 a3 a4 a5 a6 a7 a8 a9 a10 a11, Le (gossip_at_auditor_Auditor_v1.f k a0 a1 a2 a3 a4 a5 a6 a7 a8 a9 a10 a11) (gossip_at_auditor_Auditor_v1.f (k + 1) a0 a1 a2 a3 a4 a5 a6 a7 a8 a9 a10 a11) := gossip_at_auditor_Auditor_v1.les k

set_option maxRecDepth 100000 in
theorem gossip_Ring_Auditor_v1.les (k : Nat) : (∀ a0 a1 a2 a3 a4 a5 a6 a7 a8 a9 a10 a11 a12, Le (gossip_Ring_Auditor_v1.f k a0 a1 a2 a3 a4 a5 a6 a7 a8 a9 a10 a11 a12) (gossip_Ring_Auditor_v1.f (k + 1) a0 a1 a2 a3 a4 a5 a6 a7 a8 a9 a10 a11 a12)) := by
  induction k with
  | zero => exact fun _ _ _ _ _ _ _ _ _ _ _ _ _ => Le.none _
  | succ k ih =>
    have h0 := ih
    exact fun _ _ _ _ _ _ _ _ _ _ _ _ _ => Le.bind (x := gossip_at_auditor_Auditor_v1.f k _ _ _ _ _ _ _ _ _ _ _ _) (y := gossip_at_auditor_Auditor_v1.f (k + 1) _ _ _ _ _ _ _ _ _ _ _ _) (gossip_at_auditor_Auditor_v1.le ..) fun _ => Le.refl _
set_option maxRecDepth 100000 in
theorem gossip_Ring_Auditor_v1.le (k : Nat) : ∀ a0 a1 a2 a3 a4 a5 a6 a7 a8 a9 a10 a11 a12, Le (gossip_Ring_Auditor_v1.f k a0 a1 a2 a3 a4 a5 a6 a7 a8 a9 a10 a11 a12) (gossip_Ring_Auditor_v1.f (k + 1) a0 a1 a2 a3 a4 a5 a6 a7 a8 a9 a10 a11 a12) := gossip_Ring_Auditor_v1.les k

set_option maxRecDepth 100000 in
theorem gossip_Ring_Hear_v0.les (k : Nat) : (∀ a0 a1 a2 a3 a4 a5 a6 a7 a8 a9 a10 a11 a12, Le (gossip_Ring_Hear_v0.f k a0 a1 a2 a3 a4 a5 a6 a7 a8 a9 a10 a11 a12) (gossip_Ring_Hear_v0.f (k + 1) a0 a1 a2 a3 a4 a5 a6 a7 a8 a9 a10 a11 a12)) := by
  induction k with
  | zero => exact fun _ _ _ _ _ _ _ _ _ _ _ _ _ => Le.none _
  | succ k ih =>
    have h0 := ih
    exact fun _ _ _ _ _ _ _ _ _ _ _ _ _ => Le.bind (x := gossip_Ring_Auditor_v0.f k _ _ _ _ _ _ _ _ _ _ _ _ _) (y := gossip_Ring_Auditor_v0.f (k + 1) _ _ _ _ _ _ _ _ _ _ _ _ _) (gossip_Ring_Auditor_v0.le ..) fun _ => Le.bind (x := gossip_Ring_Auditor_v1.f k _ _ _ _ _ _ _ _ _ _ _ _ _) (y := gossip_Ring_Auditor_v1.f (k + 1) _ _ _ _ _ _ _ _ _ _ _ _ _) (gossip_Ring_Auditor_v1.le ..) fun _ => Le.bind (x := auditor_Auditor_Points.f k _ _ _ _ _ _ _ _ _) (y := auditor_Auditor_Points.f (k + 1) _ _ _ _ _ _ _ _ _) (auditor_Auditor_Points.le ..) fun _ => Le.bind (x := auditor_Auditor_Points.f k _ _ _ _ _ _ _ _ _) (y := auditor_Auditor_Points.f (k + 1) _ _ _ _ _ _ _ _ _) (auditor_Auditor_Points.le ..) fun _ => Le.bind (x := gossip_Compare.f k _ _) (y := gossip_Compare.f (k + 1) _ _) (gossip_Compare.le ..) fun _ => Le.cond (Le.bind (Le.refl _) fun _ => Le.refl _) (Le.refl _)
set_option maxRecDepth 100000 in
theorem gossip_Ring_Hear_v0.le (k : Nat) : ∀ a0 a1 a2 a3 a4 a5 a6 a7 a8 a9 a10 a11 a12, Le (gossip_Ring_Hear_v0.f k a0 a1 a2 a3 a4 a5 a6 a7 a8 a9 a10 a11 a12) (gossip_Ring_Hear_v0.f (k + 1) a0 a1 a2 a3 a4 a5 a6 a7 a8 a9 a10 a11 a12) := gossip_Ring_Hear_v0.les k

set_option maxRecDepth 100000 in
theorem merkle_sums.les (k : Nat) : (∀ a0, Le (merkle_sums.f k a0) (merkle_sums.f (k + 1) a0)) ∧ (∀ a0 a1 a2, Le (merkle_sums.l0 k a0 a1 a2) (merkle_sums.l0 (k + 1) a0 a1 a2)) := by
  induction k with
  | zero => exact ⟨fun _ => Le.none _, fun _ _ _ => Le.none _⟩
  | succ k ih =>
    obtain ⟨h0, h1⟩ := ih
    exact ⟨fun _ => h1 .., fun _ _ _ => Le.cond (Le.bind (Le.refl _) fun _ => Le.cond (Le.refl _) (h1 ..)) (Le.refl _)⟩
set_option maxRecDepth 100000 in
theorem merkle_sums.le (k : Nat) : ∀ a0, Le (merkle_sums.f k a0) (merkle_sums.f (k + 1) a0) := (merkle_sums.les k).1

set_option maxRecDepth 100000 in
theorem mill_Mill_none.les (k : Nat) : (∀ a0 a1 a2 a3 a4 a5, Le (mill_Mill_none.f k a0 a1 a2 a3 a4 a5) (mill_Mill_none.f (k + 1) a0 a1 a2 a3 a4 a5)) := by
  induction k with
  | zero => exact fun _ _ _ _ _ _ => Le.none _
  | succ k ih =>
    have h0 := ih
    exact fun _ _ _ _ _ _ => Le.refl _
set_option maxRecDepth 100000 in
theorem mill_Mill_none.le (k : Nat) : ∀ a0 a1 a2 a3 a4 a5, Le (mill_Mill_none.f k a0 a1 a2 a3 a4 a5) (mill_Mill_none.f (k + 1) a0 a1 a2 a3 a4 a5) := mill_Mill_none.les k

set_option maxRecDepth 100000 in
theorem sha_New.les (k : Nat) : (Le (sha_New.f k) (sha_New.f (k + 1))) := by
  induction k with
  | zero => exact Le.none _
  | succ k ih =>
    have h0 := ih
    exact Le.refl _
set_option maxRecDepth 100000 in
theorem sha_New.le (k : Nat) : Le (sha_New.f k) (sha_New.f (k + 1)) := sha_New.les k

set_option maxRecDepth 100000 in
theorem bits_RotateLeft32.les (k : Nat) : (∀ a0 a1, Le (bits_RotateLeft32.f k a0 a1) (bits_RotateLeft32.f (k + 1) a0 a1)) := by
  induction k with
  | zero => exact fun _ _ => Le.none _
  | succ k ih =>
    have h0 := ih
    exact fun _ _ => Le.refl _
set_option maxRecDepth 100000 in
theorem bits_RotateLeft32.le (k : Nat) : ∀ a0 a1, Le (bits_RotateLeft32.f k a0 a1) (bits_RotateLeft32.f (k + 1) a0 a1) := bits_RotateLeft32.les k

set_option maxRecDepth 100000 in
theorem sha_turn.les (k : Nat) : (∀ a0 a1, Le (sha_turn.f k a0 a1) (sha_turn.f (k + 1) a0 a1)) := by
  induction k with
  | zero => exact fun _ _ => Le.none _
  | succ k ih =>
    have h0 := ih
    exact fun _ _ => Le.bind (bits_RotateLeft32.le ..) fun _ => Le.refl _
set_option maxRecDepth 100000 in
theorem sha_turn.le (k : Nat) : ∀ a0 a1, Le (sha_turn.f k a0 a1) (sha_turn.f (k + 1) a0 a1) := sha_turn.les k

set_option maxRecDepth 100000 in
theorem sha_words.les (k : Nat) : (∀ a0, Le (sha_words.f k a0) (sha_words.f (k + 1) a0)) ∧ (∀ a0 a1 a2 a3, Le (sha_words.l0 k a0 a1 a2 a3) (sha_words.l0 (k + 1) a0 a1 a2 a3)) ∧ (∀ a0 a1 a2, Le (sha_words.l1 k a0 a1 a2) (sha_words.l1 (k + 1) a0 a1 a2)) := by
  induction k with
  | zero => exact ⟨fun _ => Le.none _, fun _ _ _ _ => Le.none _, fun _ _ _ => Le.none _⟩
  | succ k ih =>
    obtain ⟨h0, h1, h2⟩ := ih
    exact ⟨fun _ => h1 .., fun _ _ _ _ => Le.cond (Le.bind (Le.refl _) fun _ => (by first | exact Le.bind (Le.refl _) (fun _ => Le.bind (Le.refl _) fun _ => (by first | exact Le.bind (Le.refl _) (fun _ => Le.bind (Le.refl _) fun _ => (by first | exact Le.bind (Le.refl _) (fun _ => Le.bind (Le.refl _) fun _ => Le.bind (Le.refl _) fun _ => h1 ..) | exact Le.bind (Le.refl _) fun _ => Le.bind (Le.refl _) fun _ => h1 ..)) | exact Le.bind (Le.refl _) fun _ => (by first | exact Le.bind (Le.refl _) (fun _ => Le.bind (Le.refl _) fun _ => Le.bind (Le.refl _) fun _ => h1 ..) | exact Le.bind (Le.refl _) fun _ => Le.bind (Le.refl _) fun _ => h1 ..))) | exact Le.bind (Le.refl _) fun _ => (by first | exact Le.bind (Le.refl _) (fun _ => Le.bind (Le.refl _) fun _ => (by first | exact Le.bind (Le.refl _) (fun _ => Le.bind (Le.refl _) fun _ => Le.bind (Le.refl _) fun _ => h1 ..) | exact Le.bind (Le.refl _) fun _ => Le.bind (Le.refl _) fun _ => h1 ..)) | exact Le.bind (Le.refl _) fun _ => (by first | exact Le.bind (Le.refl _) (fun _ => Le.bind (Le.refl _) fun _ => Le.bind (Le.refl _) fun _ => h1 ..) | exact Le.bind (Le.refl _) fun _ => Le.bind (Le.refl _) fun _ => h1 ..)))) (h2 ..), fun _ _ _ => Le.cond (Le.bind (Le.refl _) fun _ => Le.bind (Le.refl _) fun _ => Le.bind (Le.refl _) fun _ => Le.bind (Le.refl _) fun _ => Le.bind (Le.refl _) fun _ => Le.bind (Le.refl _) fun _ => Le.bind (sha_turn.le ..) fun _ => Le.bind (sha_turn.le ..) fun _ => (by first | exact Le.bind (Le.refl _) (fun _ => Le.bind (Le.refl _) fun _ => Le.bind (Le.refl _) fun _ => Le.bind (sha_turn.le ..) fun _ => Le.bind (sha_turn.le ..) fun _ => (by first | exact Le.bind (Le.refl _) (fun _ => Le.bind (Le.refl _) fun _ => h2 ..) | exact Le.bind (Le.refl _) fun _ => h2 ..)) | exact Le.bind (Le.refl _) fun _ => Le.bind (Le.refl _) fun _ => Le.bind (sha_turn.le ..) fun _ => Le.bind (sha_turn.le ..) fun _ => (by first | exact Le.bind (Le.refl _) (fun _ => Le.bind (Le.refl _) fun _ => h2 ..) | exact Le.bind (Le.refl _) fun _ => h2 ..))) (Le.refl _)⟩
set_option maxRecDepth 100000 in
theorem sha_words.le (k : Nat) : ∀ a0, Le (sha_words.f k a0) (sha_words.f (k + 1) a0) := (sha_words.les k).1

set_option maxRecDepth 100000 in
theorem sha_rounds.les (k : Nat) : (Le (sha_rounds.f k) (sha_rounds.f (k + 1))) := by
  induction k with
  | zero => exact Le.none _
  | succ k ih =>
    have h0 := ih
    exact Le.refl _
set_option maxRecDepth 100000 in
theorem sha_rounds.le (k : Nat) : Le (sha_rounds.f k) (sha_rounds.f (k + 1)) := sha_rounds.les k

set_option maxRecDepth 100000 in
theorem sha_State_mix.les (k : Nat) : (∀ a0 a1 a2 a3 a4, Le (sha_State_mix.f k a0 a1 a2 a3 a4) (sha_State_mix.f (k + 1) a0 a1 a2 a3 a4)) ∧ (∀ a0 a1 a2 a3 a4 a5 a6 a7, Le (sha_State_mix.l0 k a0 a1 a2 a3 a4 a5 a6 a7) (sha_State_mix.l0 (k + 1) a0 a1 a2 a3 a4 a5 a6 a7)) ∧ (∀ a0 a1 a2 a3 a4 a5, Le (sha_State_mix.l1 k a0 a1 a2 a3 a4 a5) (sha_State_mix.l1 (k + 1) a0 a1 a2 a3 a4 a5)) := by
  induction k with
  | zero => exact ⟨fun _ _ _ _ _ => Le.none _, fun _ _ _ _ _ _ _ _ => Le.none _, fun _ _ _ _ _ _ => Le.none _⟩
  | succ k ih =>
    obtain ⟨h0, h1, h2⟩ := ih
    exact ⟨fun _ _ _ _ _ => Le.bind (sha_words.le ..) fun _ => Le.bind (sha_rounds.le ..) fun _ => h1 .., fun _ _ _ _ _ _ _ _ => Le.cond (Le.bind (sha_turn.le ..) fun _ => Le.bind (sha_turn.le ..) fun _ => Le.bind (sha_turn.le ..) fun _ => Le.bind (Le.refl _) fun _ => Le.bind (Le.refl _) fun _ => Le.bind (Le.refl _) fun _ => Le.bind (Le.refl _) fun _ => Le.bind (sha_turn.le ..) fun _ => Le.bind (sha_turn.le ..) fun _ => Le.bind (sha_turn.le ..) fun _ => h1 ..) (h2 ..), fun _ _ _ _ _ _ => Le.cond (Le.bind (Le.refl _) fun _ => Le.bind (Le.refl _) fun _ => Le.bind (Le.refl _) fun _ => Le.bind (Le.refl _) fun _ => Le.bind (Le.refl _) fun _ => h2 ..) (Le.refl _)⟩
set_option maxRecDepth 100000 in
theorem sha_State_mix.le (k : Nat) : ∀ a0 a1 a2 a3 a4, Le (sha_State_mix.f k a0 a1 a2 a3 a4) (sha_State_mix.f (k + 1) a0 a1 a2 a3 a4) := (sha_State_mix.les k).1

set_option maxRecDepth 100000 in
theorem sha_State_Write.les (k : Nat) : (∀ a0 a1 a2 a3 a4, Le (sha_State_Write.f k a0 a1 a2 a3 a4) (sha_State_Write.f (k + 1) a0 a1 a2 a3 a4)) ∧ (∀ a0 a1 a2 a3 a4, Le (sha_State_Write.l0 k a0 a1 a2 a3 a4) (sha_State_Write.l0 (k + 1) a0 a1 a2 a3 a4)) := by
  induction k with
  | zero => exact ⟨fun _ _ _ _ _ => Le.none _, fun _ _ _ _ _ => Le.none _⟩
  | succ k ih =>
    obtain ⟨h0, h1⟩ := ih
    exact ⟨fun _ _ _ _ _ => Le.cond (Le.refl _) (Le.bind (Le.refl _) fun _ => h1 ..), fun _ _ _ _ _ => Le.cond (Le.bind (Le.refl _) fun _ => Le.bind (sha_State_mix.le ..) fun _ => Le.bind (Le.refl _) fun _ => h1 ..) (Le.refl _)⟩
set_option maxRecDepth 100000 in
theorem sha_State_Write.le (k : Nat) : ∀ a0 a1 a2 a3 a4, Le (sha_State_Write.f k a0 a1 a2 a3 a4) (sha_State_Write.f (k + 1) a0 a1 a2 a3 a4) := (sha_State_Write.les k).1

set_option maxRecDepth 100000 in
theorem sha_State_Sum.les (k : Nat) : (∀ a0 a1 a2 a3, Le (sha_State_Sum.f k a0 a1 a2 a3) (sha_State_Sum.f (k + 1) a0 a1 a2 a3)) ∧ (∀ a0 a1 a2 a3 a4 a5 a6 a7 a8, Le (sha_State_Sum.l0 k a0 a1 a2 a3 a4 a5 a6 a7 a8) (sha_State_Sum.l0 (k + 1) a0 a1 a2 a3 a4 a5 a6 a7 a8)) ∧ (∀ a0 a1 a2 a3 a4 a5 a6 a7 a8 a9, Le (sha_State_Sum.l1 k a0 a1 a2 a3 a4 a5 a6 a7 a8 a9) (sha_State_Sum.l1 (k + 1) a0 a1 a2 a3 a4 a5 a6 a7 a8 a9)) ∧ (∀ a0 a1 a2 a3 a4 a5 a6, Le (sha_State_Sum.l2 k a0 a1 a2 a3 a4 a5 a6) (sha_State_Sum.l2 (k + 1) a0 a1 a2 a3 a4 a5 a6)) := by
  induction k with
  | zero => exact ⟨fun _ _ _ _ => Le.none _, fun _ _ _ _ _ _ _ _ _ => Le.none _, fun _ _ _ _ _ _ _ _ _ _ => Le.none _, fun _ _ _ _ _ _ _ => Le.none _⟩
  | succ k ih =>
    obtain ⟨h0, h1, h2, h3⟩ := ih
    exact ⟨fun _ _ _ _ => Le.cond (Le.refl _) (h1 ..), fun _ _ _ _ _ _ _ _ _ => (by first | exact Le.bind (Le.refl _) (fun _ => Le.cond (Le.bind (Le.refl _) fun _ => h1 ..) (h2 ..)) | exact Le.cond (Le.bind (Le.refl _) fun _ => h1 ..) (h2 ..)), fun _ _ _ _ _ _ _ _ _ _ => Le.cond (Le.bind (Le.refl _) fun _ => Le.bind (Le.refl _) fun _ => h2 ..) (Le.bind (sha_State_Write.le ..) fun _ => h3 ..), fun _ _ _ _ _ _ _ => Le.cond (Le.bind (Le.refl _) fun _ => (by first | exact Le.bind (Le.refl _) (fun _ => (by first | exact Le.bind (Le.refl _) (fun _ => (by first | exact Le.bind (Le.refl _) (fun _ => Le.bind (Le.refl _) fun _ => h3 ..) | exact Le.bind (Le.refl _) fun _ => h3 ..)) | exact (by first | exact Le.bind (Le.refl _) (fun _ => Le.bind (Le.refl _) fun _ => h3 ..) | exact Le.bind (Le.refl _) fun _ => h3 ..))) | exact (by first | exact Le.bind (Le.refl _) (fun _ => (by first | exact Le.bind (Le.refl _) (fun _ => Le.bind (Le.refl _) fun _ => h3 ..) | exact Le.bind (Le.refl _) fun _ => h3 ..)) | exact (by first | exact Le.bind (Le.refl _) (fun _ => Le.bind (Le.refl _) fun _ => h3 ..) | exact Le.bind (Le.refl _) fun _ => h3 ..)))) (Le.refl _)⟩
set_option maxRecDepth 100000 in
theorem sha_State_Sum.le (k : Nat) : ∀ a0 a1 a2 a3, Le (sha_State_Sum.f k a0 a1 a2 a3) (sha_State_Sum.f (k + 1) a0 a1 a2 a3) := (sha_State_Sum.les k).1

set_option maxRecDepth 100000 in
theorem sha_Sum.les (k : Nat) : (∀ a0, Le (sha_Sum.f k a0) (sha_Sum.f (k + 1) a0)) := by
  induction k with
  | zero => exact fun _ => Le.none _
  | succ k ih =>
    have h0 := ih
    exact fun _ => Le.bind (sha_New.le ..) fun _ => Le.bind (sha_State_Write.le ..) fun _ => Le.bind (sha_State_Sum.le ..) fun _ => Le.refl _
set_option maxRecDepth 100000 in
theorem sha_Sum.le (k : Nat) : ∀ a0, Le (sha_Sum.f k a0) (sha_Sum.f (k + 1) a0) := sha_Sum.les k

set_option maxRecDepth 100000 in
theorem mill_name.les (k : Nat) : (∀ a0 a1 a2, Le (mill_name.f k a0 a1 a2) (mill_name.f (k + 1) a0 a1 a2)) := by
  induction k with
  | zero => exact fun _ _ _ => Le.none _
  | succ k ih =>
    have h0 := ih
    exact fun _ _ _ => Le.cond (Le.bind (Le.refl _) fun _ => Le.refl _) (Le.bind (sha_Sum.le ..) fun _ => Le.bind (Le.refl _) fun _ => Le.bind (Le.refl _) fun _ => Le.refl _)
set_option maxRecDepth 100000 in
theorem mill_name.le (k : Nat) : ∀ a0 a1 a2, Le (mill_name.f k a0 a1 a2) (mill_name.f (k + 1) a0 a1 a2) := mill_name.les k

set_option maxRecDepth 100000 in
theorem mill_Mill_note.les (k : Nat) : (∀ a0 a1 a2 a3 a4 a5 a6 a7, Le (mill_Mill_note.f k a0 a1 a2 a3 a4 a5 a6 a7) (mill_Mill_note.f (k + 1) a0 a1 a2 a3 a4 a5 a6 a7)) := by
  induction k with
  | zero => exact fun _ _ _ _ _ _ _ _ => Le.none _
  | succ k ih =>
    have h0 := ih
    exact fun _ _ _ _ _ _ _ _ => Le.refl _
set_option maxRecDepth 100000 in
theorem mill_Mill_note.le (k : Nat) : ∀ a0 a1 a2 a3 a4 a5 a6 a7, Le (mill_Mill_note.f k a0 a1 a2 a3 a4 a5 a6 a7) (mill_Mill_note.f (k + 1) a0 a1 a2 a3 a4 a5 a6 a7) := mill_Mill_note.les k

set_option maxRecDepth 100000 in
theorem mill_Mill_Sum.les (k : Nat) : (∀ a0 a1 a2 a3 a4 a5 a6, Le (mill_Mill_Sum.f k a0 a1 a2 a3 a4 a5 a6) (mill_Mill_Sum.f (k + 1) a0 a1 a2 a3 a4 a5 a6)) := by
  induction k with
  | zero => exact fun _ _ _ _ _ _ _ => Le.none _
  | succ k ih =>
    have h0 := ih
    exact fun _ _ _ _ _ _ _ => Le.bind (mill_Mill_none.le ..) fun _ => Le.cond (Le.refl _) (Le.bind (mill_name.le ..) fun _ => Le.cond (Le.bind (sha_Sum.le ..) fun _ => Le.bind (mill_Mill_note.le ..) fun _ => Le.refl _) (Le.bind (mill_Mill_note.le ..) fun _ => Le.refl _))
set_option maxRecDepth 100000 in
theorem mill_Mill_Sum.le (k : Nat) : ∀ a0 a1 a2 a3 a4 a5 a6, Le (mill_Mill_Sum.f k a0 a1 a2 a3 a4 a5 a6) (mill_Mill_Sum.f (k + 1) a0 a1 a2 a3 a4 a5 a6) := mill_Mill_Sum.les k

set_option maxRecDepth 100000 in
theorem pledge_None.les (k : Nat) : (∀ a0 a1 a2 a3 a4 a5, Le (pledge_None.f k a0 a1 a2 a3 a4 a5) (pledge_None.f (k + 1) a0 a1 a2 a3 a4 a5)) := by
  induction k with
  | zero => exact fun _ _ _ _ _ _ => Le.none _
  | succ k ih =>
    have h0 := ih
    exact fun _ _ _ _ _ _ => Le.bind (mill_Mill_Sum.le ..) fun _ => Le.refl _
set_option maxRecDepth 100000 in
theorem pledge_None.le (k : Nat) : ∀ a0 a1 a2 a3 a4 a5, Le (pledge_None.f k a0 a1 a2 a3 a4 a5) (pledge_None.f (k + 1) a0 a1 a2 a3 a4 a5) := pledge_None.les k

set_option maxRecDepth 100000 in
theorem merkle_split.les (k : Nat) : (∀ a0, Le (merkle_split.f k a0) (merkle_split.f (k + 1) a0)) ∧ (∀ a0 a1, Le (merkle_split.l0 k a0 a1) (merkle_split.l0 (k + 1) a0 a1)) := by
  induction k with
  | zero => exact ⟨fun _ => Le.none _, fun _ _ => Le.none _⟩
  | succ k ih =>
    obtain ⟨h0, h1⟩ := ih
    exact ⟨fun _ => h1 .., fun _ _ => Le.cond (h1 ..) (Le.refl _)⟩
set_option maxRecDepth 100000 in
theorem merkle_split.le (k : Nat) : ∀ a0, Le (merkle_split.f k a0) (merkle_split.f (k + 1) a0) := (merkle_split.les k).1

set_option maxRecDepth 100000 in
theorem pledge_Node.les (k : Nat) : (∀ a0 a1 a2 a3 a4 a5 a6 a7, Le (pledge_Node.f k a0 a1 a2 a3 a4 a5 a6 a7) (pledge_Node.f (k + 1) a0 a1 a2 a3 a4 a5 a6 a7)) := by
  induction k with
  | zero => exact fun _ _ _ _ _ _ _ _ => Le.none _
  | succ k ih =>
    have h0 := ih
    exact fun _ _ _ _ _ _ _ _ => Le.bind (Le.refl _) fun _ => Le.bind (Le.refl _) fun _ => Le.bind (mill_Mill_Sum.le ..) fun _ => Le.refl _
set_option maxRecDepth 100000 in
theorem pledge_Node.le (k : Nat) : ∀ a0 a1 a2 a3 a4 a5 a6 a7, Le (pledge_Node.f k a0 a1 a2 a3 a4 a5 a6 a7) (pledge_Node.f (k + 1) a0 a1 a2 a3 a4 a5 a6 a7) := pledge_Node.les k

set_option maxRecDepth 100000 in
theorem merkle_both.les (k : Nat) : (∀ a0 a1 a2 a3 a4 a5 a6 a7 a8 a9 a10, Le (merkle_both.f k a0 a1 a2 a3 a4 a5 a6 a7 a8 a9 a10) (merkle_both.f (k + 1) a0 a1 a2 a3 a4 a5 a6 a7 a8 a9 a10)) := by
  induction k with
  | zero => exact fun _ _ _ _ _ _ _ _ _ _ _ => Le.none _
  | succ k ih =>
    have h0 := ih
    exact fun _ _ _ _ _ _ _ _ _ _ _ => Le.cond (Le.cond (Le.refl _) (Le.cond (Le.refl _) (Le.bind (Le.refl _) fun _ => Le.bind (Le.refl _) fun _ => Le.refl _))) (Le.cond (Le.refl _) (Le.bind (merkle_split.le ..) fun _ => Le.bind (Le.refl _) fun _ => Le.bind (Le.refl _) fun _ => Le.cond (Le.bind (h0 ..) fun _ => Le.bind (pledge_Node.le ..) fun _ => Le.refl _) (Le.bind (h0 ..) fun _ => Le.bind (pledge_Node.le ..) fun _ => Le.bind (pledge_Node.le ..) fun _ => Le.refl _)))
set_option maxRecDepth 100000 in
theorem merkle_both.le (k : Nat) : ∀ a0 a1 a2 a3 a4 a5 a6 a7 a8 a9 a10, Le (merkle_both.f k a0 a1 a2 a3 a4 a5 a6 a7 a8 a9 a10) (merkle_both.f (k + 1) a0 a1 a2 a3 a4 a5 a6 a7 a8 a9 a10) := merkle_both.les k

set_option maxRecDepth 100000 in
theorem merkle_Grown.les (k : Nat) : (∀ a0 a1 a2 a3 a4 a5 a6 a7 a8, Le (merkle_Grown.f k a0 a1 a2 a3 a4 a5 a6 a7 a8) (merkle_Grown.f (k + 1) a0 a1 a2 a3 a4 a5 a6 a7 a8)) ∧ (∀ a0 a1 a2 a3 a4 a5 a6 a7 a8 a9 a10, Le (merkle_Grown.j0 k a0 a1 a2 a3 a4 a5 a6 a7 a8 a9 a10) (merkle_Grown.j0 (k + 1) a0 a1 a2 a3 a4 a5 a6 a7 a8 a9 a10)) := by
  induction k with
  | zero => exact ⟨fun _ _ _ _ _ _ _ _ _ => Le.none _, fun _ _ _ _ _ _ _ _ _ _ _ => Le.none _⟩
  | succ k ih =>
    obtain ⟨h0, h1⟩ := ih
    exact ⟨fun _ _ _ _ _ _ _ _ _ => Le.cond (Le.refl _) (Le.cond (Le.refl _) (Le.cond (Le.refl _) (Le.bind (merkle_sums.le ..) fun _ => Le.cond (Le.refl _) (Le.cond (Le.refl _) (Le.bind (merkle_sums.le ..) fun _ => Le.cond (Le.refl _) (h1 ..)))))), fun _ _ _ _ _ _ _ _ _ _ _ => Le.cond (Le.bind (pledge_None.le ..) fun _ => Le.cond (Le.refl _) (Le.cond (Le.cond (Le.refl _) (Le.cond (Le.refl _) (Le.refl _))) (Le.cond (Le.refl _) (Le.refl _)))) (Le.bind (merkle_both.le ..) fun _ => Le.cond (Le.refl _) (Le.cond (Le.refl _) (Le.cond (Le.refl _) (Le.refl _))))⟩
set_option maxRecDepth 100000 in
theorem merkle_Grown.le (k : Nat) : ∀ a0 a1 a2 a3 a4 a5 a6 a7 a8, Le (merkle_Grown.f k a0 a1 a2 a3 a4 a5 a6 a7 a8) (merkle_Grown.f (k + 1) a0 a1 a2 a3 a4 a5 a6 a7 a8) := (merkle_Grown.les k).1

set_option maxRecDepth 100000 in
theorem auditor_Auditor_Last.les (k : Nat) : (∀ a0 a1 a2 a3 a4 a5 a6 a7 a8, Le (auditor_Auditor_Last.f k a0 a1 a2 a3 a4 a5 a6 a7 a8) (auditor_Auditor_Last.f (k + 1) a0 a1 a2 a3 a4 a5 a6 a7 a8)) ∧ (∀ a0 a1 a2 a3 a4 a5 a6 a7 a8 a9 a10, Le (auditor_Auditor_Last.j0 k a0 a1 a2 a3 a4 a5 a6 a7 a8 a9 a10) (auditor_Auditor_Last.j0 (k + 1) a0 a1 a2 a3 a4 a5 a6 a7 a8 a9 a10)) := by
  induction k with
  | zero => exact ⟨fun _ _ _ _ _ _ _ _ _ => Le.none _, fun _ _ _ _ _ _ _ _ _ _ _ => Le.none _⟩
  | succ k ih =>
    obtain ⟨h0, h1⟩ := ih
    exact ⟨fun _ _ _ _ _ _ _ _ _ => Le.bind (auditor_Auditor_none.le ..) fun _ => Le.cond (Le.refl _) (Le.cond (Le.refl _) (h1 ..)), fun _ _ _ _ _ _ _ _ _ _ _ => Le.refl _⟩
set_option maxRecDepth 100000 in
theorem auditor_Auditor_Last.le (k : Nat) : ∀ a0 a1 a2 a3 a4 a5 a6 a7 a8, Le (auditor_Auditor_Last.f k a0 a1 a2 a3 a4 a5 a6 a7 a8) (auditor_Auditor_Last.f (k + 1) a0 a1 a2 a3 a4 a5 a6 a7 a8) := (auditor_Auditor_Last.les k).1

set_option maxRecDepth 100000 in
theorem auditor_Auditor_count.les (k : Nat) : (∀ a0 a1 a2 a3 a4 a5 a6 a7 a8, Le (auditor_Auditor_count.f k a0 a1 a2 a3 a4 a5 a6 a7 a8) (auditor_Auditor_count.f (k + 1) a0 a1 a2 a3 a4 a5 a6 a7 a8)) := by
  induction k with
  | zero => exact fun _ _ _ _ _ _ _ _ _ => Le.none _
  | succ k ih =>
    have h0 := ih
    exact fun _ _ _ _ _ _ _ _ _ => Le.refl _
set_option maxRecDepth 100000 in
theorem auditor_Auditor_count.le (k : Nat) : ∀ a0 a1 a2 a3 a4 a5 a6 a7 a8, Le (auditor_Auditor_count.f k a0 a1 a2 a3 a4 a5 a6 a7 a8) (auditor_Auditor_count.f (k + 1) a0 a1 a2 a3 a4 a5 a6 a7 a8) := auditor_Auditor_count.les k

set_option maxRecDepth 100000 in
theorem proof_sums.les (k : Nat) : (∀ a0 a1, Le (proof_sums.f k a0 a1) (proof_sums.f (k + 1) a0 a1)) ∧ (∀ a0 a1 a2 a3 a4, Le (proof_sums.l0 k a0 a1 a2 a3 a4) (proof_sums.l0 (k + 1) a0 a1 a2 a3 a4)) := by
  induction k with
  | zero => exact ⟨fun _ _ => Le.none _, fun _ _ _ _ _ => Le.none _⟩
  | succ k ih =>
    obtain ⟨h0, h1⟩ := ih
    exact ⟨fun _ _ => h1 .., fun _ _ _ _ _ => Le.cond (Le.bind (Le.refl _) fun _ => Le.cond (Le.refl _) (h1 ..)) (Le.refl _)⟩
set_option maxRecDepth 100000 in
theorem proof_sums.le (k : Nat) : ∀ a0 a1, Le (proof_sums.f k a0 a1) (proof_sums.f (k + 1) a0 a1) := (proof_sums.les k).1

set_option maxRecDepth 100000 in
theorem proof_RightGrowth.les (k : Nat) : (∀ a0, Le (proof_RightGrowth.f k a0) (proof_RightGrowth.f (k + 1) a0)) := by
  induction k with
  | zero => exact fun _ => Le.none _
  | succ k ih =>
    have h0 := ih
    exact fun _ => Le.cond (Le.cond (Le.cond (Le.bind (proof_sums.le ..) fun _ => Le.refl _) (Le.refl _)) (Le.refl _)) (Le.refl _)
set_option maxRecDepth 100000 in
theorem proof_RightGrowth.le (k : Nat) : ∀ a0, Le (proof_RightGrowth.f k a0) (proof_RightGrowth.f (k + 1) a0) := proof_RightGrowth.les k

set_option maxRecDepth 100000 in
theorem octet_Read.les (k : Nat) : (∀ a0, Le (octet_Read.f k a0) (octet_Read.f (k + 1) a0)) := by
  induction k with
  | zero => exact fun _ => Le.none _
  | succ k ih =>
    have h0 := ih
    exact fun _ => Le.refl _
set_option maxRecDepth 100000 in
theorem octet_Read.le (k : Nat) : ∀ a0, Le (octet_Read.f k a0) (octet_Read.f (k + 1) a0) := octet_Read.les k

set_option maxRecDepth 100000 in
theorem octet_Reader_Fail.les (k : Nat) : (∀ a0 a1 a2 a3, Le (octet_Reader_Fail.f k a0 a1 a2 a3) (octet_Reader_Fail.f (k + 1) a0 a1 a2 a3)) := by
  induction k with
  | zero => exact fun _ _ _ _ => Le.none _
  | succ k ih =>
    have h0 := ih
    exact fun _ _ _ _ => Le.refl _
set_option maxRecDepth 100000 in
theorem octet_Reader_Fail.le (k : Nat) : ∀ a0 a1 a2 a3, Le (octet_Reader_Fail.f k a0 a1 a2 a3) (octet_Reader_Fail.f (k + 1) a0 a1 a2 a3) := octet_Reader_Fail.les k

set_option maxRecDepth 100000 in
theorem octet_Reader_Err.les (k : Nat) : (∀ a0 a1 a2, Le (octet_Reader_Err.f k a0 a1 a2) (octet_Reader_Err.f (k + 1) a0 a1 a2)) := by
  induction k with
  | zero => exact fun _ _ _ => Le.none _
  | succ k ih =>
    have h0 := ih
    exact fun _ _ _ => Le.refl _
set_option maxRecDepth 100000 in
theorem octet_Reader_Err.le (k : Nat) : ∀ a0 a1 a2, Le (octet_Reader_Err.f k a0 a1 a2) (octet_Reader_Err.f (k + 1) a0 a1 a2) := octet_Reader_Err.les k

set_option maxRecDepth 100000 in
theorem octet_Reader_Raw.les (k : Nat) : (∀ a0 a1 a2 a3, Le (octet_Reader_Raw.f k a0 a1 a2 a3) (octet_Reader_Raw.f (k + 1) a0 a1 a2 a3)) := by
  induction k with
  | zero => exact fun _ _ _ _ => Le.none _
  | succ k ih =>
    have h0 := ih
    exact fun _ _ _ _ => Le.bind (octet_Reader_Err.le ..) fun _ => Le.cond (Le.refl _) (Le.cond (Le.bind (octet_Reader_Fail.le ..) fun _ => Le.refl _) (Le.cond (Le.bind (octet_Reader_Fail.le ..) fun _ => Le.refl _) (Le.bind (Le.refl _) fun _ => Le.refl _)))
set_option maxRecDepth 100000 in
theorem octet_Reader_Raw.le (k : Nat) : ∀ a0 a1 a2 a3, Le (octet_Reader_Raw.f k a0 a1 a2 a3) (octet_Reader_Raw.f (k + 1) a0 a1 a2 a3) := octet_Reader_Raw.les k

set_option maxRecDepth 100000 in
theorem octet_Reader_Num.les (k : Nat) : (∀ a0 a1 a2 a3, Le (octet_Reader_Num.f k a0 a1 a2 a3) (octet_Reader_Num.f (k + 1) a0 a1 a2 a3)) ∧ (∀ a0 a1 a2 a3 a4 a5 a6 a7, Le (octet_Reader_Num.l0 k a0 a1 a2 a3 a4 a5 a6 a7) (octet_Reader_Num.l0 (k + 1) a0 a1 a2 a3 a4 a5 a6 a7)) := by
  induction k with
  | zero => exact ⟨fun _ _ _ _ => Le.none _, fun _ _ _ _ _ _ _ _ => Le.none _⟩
  | succ k ih =>
    obtain ⟨h0, h1⟩ := ih
    exact ⟨fun _ _ _ _ => Le.bind (octet_Reader_Raw.le ..) fun _ => Le.cond (Le.refl _) (Le.bind (Le.refl _) fun _ => Le.cond (Le.bind (octet_Reader_Fail.le ..) fun _ => Le.refl _) (Le.bind (octet_Reader_Raw.le ..) fun _ => h1 ..)), fun _ _ _ _ _ _ _ _ => Le.cond (Le.bind (Le.refl _) fun _ => Le.cond (Le.cond (Le.bind (octet_Reader_Fail.le ..) fun _ => Le.refl _) ((by first | exact Le.bind (Le.refl _) (fun _ => h1 ..) | exact h1 ..))) ((by first | exact Le.bind (Le.refl _) (fun _ => h1 ..) | exact h1 ..))) (Le.bind (octet_Reader_Err.le ..) fun _ => Le.cond (Le.refl _) (Le.cond (Le.bind (octet_Reader_Fail.le ..) fun _ => Le.refl _) (Le.refl _)))⟩
set_option maxRecDepth 100000 in
theorem octet_Reader_Num.le (k : Nat) : ∀ a0 a1 a2 a3, Le (octet_Reader_Num.f k a0 a1 a2 a3) (octet_Reader_Num.f (k + 1) a0 a1 a2 a3) := (octet_Reader_Num.les k).1

set_option maxRecDepth 100000 in
theorem octet_Reader_Text.les (k : Nat) : (∀ a0 a1 a2 a3, Le (octet_Reader_Text.f k a0 a1 a2 a3) (octet_Reader_Text.f (k + 1) a0 a1 a2 a3)) := by
  induction k with
  | zero => exact fun _ _ _ _ => Le.none _
  | succ k ih =>
    have h0 := ih
    exact fun _ _ _ _ => Le.bind (octet_Reader_Num.le ..) fun _ => Le.bind (octet_Reader_Raw.le ..) fun _ => Le.refl _
set_option maxRecDepth 100000 in
theorem octet_Reader_Text.le (k : Nat) : ∀ a0 a1 a2 a3, Le (octet_Reader_Text.f k a0 a1 a2 a3) (octet_Reader_Text.f (k + 1) a0 a1 a2 a3) := octet_Reader_Text.les k

set_option maxRecDepth 100000 in
theorem octet_Reader_Texts.les (k : Nat) : (∀ a0 a1 a2 a3 a4, Le (octet_Reader_Texts.f k a0 a1 a2 a3 a4) (octet_Reader_Texts.f (k + 1) a0 a1 a2 a3 a4)) ∧ (∀ a0 a1 a2 a3 a4 a5 a6, Le (octet_Reader_Texts.l0 k a0 a1 a2 a3 a4 a5 a6) (octet_Reader_Texts.l0 (k + 1) a0 a1 a2 a3 a4 a5 a6)) := by
  induction k with
  | zero => exact ⟨fun _ _ _ _ _ => Le.none _, fun _ _ _ _ _ _ _ => Le.none _⟩
  | succ k ih =>
    obtain ⟨h0, h1⟩ := ih
    exact ⟨fun _ _ _ _ _ => Le.bind (octet_Reader_Num.le ..) fun _ => h1 .., fun _ _ _ _ _ _ _ => Le.cond (Le.bind (octet_Reader_Text.le ..) fun _ => Le.bind (octet_Reader_Err.le ..) fun _ => Le.cond (Le.refl _) (Le.bind (Le.refl _) fun _ => h1 ..)) (Le.refl _)⟩
set_option maxRecDepth 100000 in
theorem octet_Reader_Texts.le (k : Nat) : ∀ a0 a1 a2 a3 a4, Le (octet_Reader_Texts.f k a0 a1 a2 a3 a4) (octet_Reader_Texts.f (k + 1) a0 a1 a2 a3 a4) := (octet_Reader_Texts.les k).1

set_option maxRecDepth 100000 in
theorem octet_Reader_Left.les (k : Nat) : (∀ a0 a1 a2, Le (octet_Reader_Left.f k a0 a1 a2) (octet_Reader_Left.f (k + 1) a0 a1 a2)) := by
  induction k with
  | zero => exact fun _ _ _ => Le.none _
  | succ k ih =>
    have h0 := ih
    exact fun _ _ _ => Le.bind (octet_Reader_Err.le ..) fun _ => Le.cond (Le.refl _) (Le.refl _)
set_option maxRecDepth 100000 in
theorem octet_Reader_Left.le (k : Nat) : ∀ a0 a1 a2, Le (octet_Reader_Left.f k a0 a1 a2) (octet_Reader_Left.f (k + 1) a0 a1 a2) := octet_Reader_Left.les k

set_option maxRecDepth 100000 in
theorem octet_Reader_End.les (k : Nat) : (∀ a0 a1 a2, Le (octet_Reader_End.f k a0 a1 a2) (octet_Reader_End.f (k + 1) a0 a1 a2)) := by
  induction k with
  | zero => exact fun _ _ _ => Le.none _
  | succ k ih =>
    have h0 := ih
    exact fun _ _ _ => Le.bind (octet_Reader_Left.le ..) fun _ => Le.cond (Le.bind (octet_Reader_Fail.le ..) fun _ => Le.bind (octet_Reader_Err.le ..) fun _ => Le.refl _) (Le.bind (octet_Reader_Err.le ..) fun _ => Le.refl _)
set_option maxRecDepth 100000 in
theorem octet_Reader_End.le (k : Nat) : ∀ a0 a1 a2, Le (octet_Reader_End.f k a0 a1 a2) (octet_Reader_End.f (k + 1) a0 a1 a2) := octet_Reader_End.les k

set_option maxRecDepth 100000 in
theorem proof_ReadGrowth.les (k : Nat) : (∀ a0, Le (proof_ReadGrowth.f k a0) (proof_ReadGrowth.f (k + 1) a0)) := by
  induction k with
  | zero => exact fun _ => Le.none _
  | succ k ih =>
    have h0 := ih
    exact fun _ => Le.bind (octet_Read.le ..) fun _ => Le.bind (octet_Reader_Num.le ..) fun _ => Le.bind (octet_Reader_Text.le ..) fun _ => Le.bind (octet_Reader_Texts.le ..) fun _ => Le.bind (octet_Reader_End.le ..) fun _ => Le.cond (Le.refl _) (Le.bind (proof_RightGrowth.le ..) fun _ => Le.cond (Le.refl _) (Le.refl _))
set_option maxRecDepth 100000 in
theorem proof_ReadGrowth.le (k : Nat) : ∀ a0, Le (proof_ReadGrowth.f k a0) (proof_ReadGrowth.f (k + 1) a0) := proof_ReadGrowth.les k

set_option maxRecDepth 100000 in
theorem auditor_Auditor_known_1_v0.les (k : Nat) : (∀ a0 a1, Le (auditor_Auditor_known_1_v0.f k a0 a1) (auditor_Auditor_known_1_v0.f (k + 1) a0 a1)) := by
  induction k with
  | zero => exact fun _ _ => Le.none _
  | succ k ih =>
    have h0 := ih
    exact fun _ _ => Le.refl _
set_option maxRecDepth 100000 in
theorem auditor_Auditor_known_1_v0.le (k : Nat) : ∀ a0 a1, Le (auditor_Auditor_known_1_v0.f k a0 a1) (auditor_Auditor_known_1_v0.f (k + 1) a0 a1) := auditor_Auditor_known_1_v0.les k

set_option maxRecDepth 100000 in
theorem slices_IndexFunc_api_Point_v0.les (k : Nat) : (∀ a0 a1, Le (slices_IndexFunc_api_Point_v0.f k a0 a1) (slices_IndexFunc_api_Point_v0.f (k + 1) a0 a1)) ∧ (∀ a0 a1 a2 a3, Le (slices_IndexFunc_api_Point_v0.l0 k a0 a1 a2 a3) (slices_IndexFunc_api_Point_v0.l0 (k + 1) a0 a1 a2 a3)) := by
  induction k with
  | zero => exact ⟨fun _ _ => Le.none _, fun _ _ _ _ => Le.none _⟩
  | succ k ih =>
    obtain ⟨h0, h1⟩ := ih
    exact ⟨fun _ _ => h1 .., fun _ _ _ _ => Le.cond (Le.bind (Le.refl _) fun _ => Le.bind (auditor_Auditor_known_1_v0.le ..) fun _ => Le.cond (Le.refl _) (h1 ..)) (Le.refl _)⟩
set_option maxRecDepth 100000 in
theorem slices_IndexFunc_api_Point_v0.le (k : Nat) : ∀ a0 a1, Le (slices_IndexFunc_api_Point_v0.f k a0 a1) (slices_IndexFunc_api_Point_v0.f (k + 1) a0 a1) := (slices_IndexFunc_api_Point_v0.les k).1

set_option maxRecDepth 100000 in
theorem auditor_Auditor_known.les (k : Nat) : (∀ a0 a1 a2 a3 a4 a5 a6 a7 a8 a9, Le (auditor_Auditor_known.f k a0 a1 a2 a3 a4 a5 a6 a7 a8 a9) (auditor_Auditor_known.f (k + 1) a0 a1 a2 a3 a4 a5 a6 a7 a8 a9)) := by
  induction k with
  | zero => exact fun _ _ _ _ _ _ _ _ _ _ => Le.none _
  | succ k ih =>
    have h0 := ih
    exact fun _ _ _ _ _ _ _ _ _ _ => Le.bind (slices_IndexFunc_api_Point_v0.le ..) fun _ => Le.cond (Le.refl _) (Le.bind (Le.refl _) fun _ => Le.refl _)
set_option maxRecDepth 100000 in
theorem auditor_Auditor_known.le (k : Nat) : ∀ a0 a1 a2 a3 a4 a5 a6 a7 a8 a9, Le (auditor_Auditor_known.f k a0 a1 a2 a3 a4 a5 a6 a7 a8 a9) (auditor_Auditor_known.f (k + 1) a0 a1 a2 a3 a4 a5 a6 a7 a8 a9) := auditor_Auditor_known.les k

set_option maxRecDepth 100000 in
theorem auditor_Auditor_Meet.les (k : Nat) : (∀ a0 a1 a2 a3 a4 a5 a6 a7 a8 a9, Le (auditor_Auditor_Meet.f k a0 a1 a2 a3 a4 a5 a6 a7 a8 a9) (auditor_Auditor_Meet.f (k + 1) a0 a1 a2 a3 a4 a5 a6 a7 a8 a9)) ∧ (∀ a0 a1 a2 a3 a4 a5 a6 a7 a8 a9 a10 a11 a12, Le (auditor_Auditor_Meet.j0 k a0 a1 a2 a3 a4 a5 a6 a7 a8 a9 a10 a11 a12) (auditor_Auditor_Meet.j0 (k + 1) a0 a1 a2 a3 a4 a5 a6 a7 a8 a9 a10 a11 a12)) := by
  induction k with
  | zero => exact ⟨fun _ _ _ _ _ _ _ _ _ _ => Le.none _, fun _ _ _ _ _ _ _ _ _ _ _ _ _ => Le.none _⟩
  | succ k ih =>
    obtain ⟨h0, h1⟩ := ih
    exact ⟨fun _ _ _ _ _ _ _ _ _ _ => Le.bind (auditor_Auditor_none.le ..) fun _ => Le.cond (Le.refl _) (Le.bind (proof_ReadGrowth.le ..) fun _ => Le.cond (Le.bind (auditor_Auditor_count.le ..) fun _ => Le.refl _) (Le.bind (auditor_Auditor_known.le ..) fun _ => Le.cond (Le.cond (Le.bind (Le.refl _) fun _ => Le.bind (auditor_Auditor_count.le ..) fun _ => Le.refl _) (Le.bind (auditor_Auditor_count.le ..) fun _ => Le.refl _)) (Le.bind (auditor_Auditor_Last.le ..) fun _ => Le.cond (Le.bind (pledge_None.le ..) fun _ => h1 ..) (h1 ..)))), fun _ _ _ _ _ _ _ _ _ _ _ _ _ => Le.bind (merkle_Grown.le ..) fun _ => Le.cond (Le.bind (auditor_Auditor_count.le ..) fun _ => Le.refl _) (Le.bind (Le.refl _) fun _ => Le.bind (auditor_Auditor_count.le ..) fun _ => Le.refl _)⟩
set_option maxRecDepth 100000 in
theorem auditor_Auditor_Meet.le (k : Nat) : ∀ a0 a1 a2 a3 a4 a5 a6 a7 a8 a9, Le (auditor_Auditor_Meet.f k a0 a1 a2 a3 a4 a5 a6 a7 a8 a9) (auditor_Auditor_Meet.f (k + 1) a0 a1 a2 a3 a4 a5 a6 a7 a8 a9) := (auditor_Auditor_Meet.les k).1

set_option maxRecDepth 100000 in
theorem gossip_Ring_Tell_v0.les (k : Nat) : (∀ a0 a1 a2 a3 a4 a5 a6 a7 a8 a9 a10 a11 a12 a13, Le (gossip_Ring_Tell_v0.f k a0 a1 a2 a3 a4 a5 a6 a7 a8 a9 a10 a11 a12 a13) (gossip_Ring_Tell_v0.f (k + 1) a0 a1 a2 a3 a4 a5 a6 a7 a8 a9 a10 a11 a12 a13)) := by
  induction k with
  | zero => exact fun _ _ _ _ _ _ _ _ _ _ _ _ _ _ => Le.none _
  | succ k ih =>
    have h0 := ih
    exact fun _ _ _ _ _ _ _ _ _ _ _ _ _ _ => Le.bind (x := gossip_Ring_Auditor_v0.f k _ _ _ _ _ _ _ _ _ _ _ _ _) (y := gossip_Ring_Auditor_v0.f (k + 1) _ _ _ _ _ _ _ _ _ _ _ _ _) (gossip_Ring_Auditor_v0.le ..) fun _ => Le.bind (x := auditor_Auditor_Meet.f k _ _ _ _ _ _ _ _ _ _) (y := auditor_Auditor_Meet.f (k + 1) _ _ _ _ _ _ _ _ _ _) (auditor_Auditor_Meet.le ..) fun _ => Le.refl _
set_option maxRecDepth 100000 in
theorem gossip_Ring_Tell_v0.le (k : Nat) : ∀ a0 a1 a2 a3 a4 a5 a6 a7 a8 a9 a10 a11 a12 a13, Le (gossip_Ring_Tell_v0.f k a0 a1 a2 a3 a4 a5 a6 a7 a8 a9 a10 a11 a12 a13) (gossip_Ring_Tell_v0.f (k + 1) a0 a1 a2 a3 a4 a5 a6 a7 a8 a9 a10 a11 a12 a13) := gossip_Ring_Tell_v0.les k

set_option maxRecDepth 100000 in
theorem gossip_Ring_Tell_v1.les (k : Nat) : (∀ a0 a1 a2 a3 a4 a5 a6 a7 a8 a9 a10 a11 a12 a13, Le (gossip_Ring_Tell_v1.f k a0 a1 a2 a3 a4 a5 a6 a7 a8 a9 a10 a11 a12 a13) (gossip_Ring_Tell_v1.f (k + 1) a0 a1 a2 a3 a4 a5 a6 a7 a8 a9 a10 a11 a12 a13)) := by
  induction k with
  | zero => exact fun _ _ _ _ _ _ _ _ _ _ _ _ _ _ => Le.none _
  | succ k ih =>
    have h0 := ih
    exact fun _ _ _ _ _ _ _ _ _ _ _ _ _ _ => Le.bind (x := gossip_Ring_Auditor_v1.f k _ _ _ _ _ _ _ _ _ _ _ _ _) (y := gossip_Ring_Auditor_v1.f (k + 1) _ _ _ _ _ _ _ _ _ _ _ _ _) (gossip_Ring_Auditor_v1.le ..) fun _ => Le.bind (x := auditor_Auditor_Meet.f k _ _ _ _ _ _ _ _ _ _) (y := auditor_Auditor_Meet.f (k + 1) _ _ _ _ _ _ _ _ _ _) (auditor_Auditor_Meet.le ..) fun _ => Le.refl _
set_option maxRecDepth 100000 in
theorem gossip_Ring_Tell_v1.le (k : Nat) : ∀ a0 a1 a2 a3 a4 a5 a6 a7 a8 a9 a10 a11 a12 a13, Le (gossip_Ring_Tell_v1.f k a0 a1 a2 a3 a4 a5 a6 a7 a8 a9 a10 a11 a12 a13) (gossip_Ring_Tell_v1.f (k + 1) a0 a1 a2 a3 a4 a5 a6 a7 a8 a9 a10 a11 a12 a13) := gossip_Ring_Tell_v1.les k

set_option maxRecDepth 100000 in
theorem octet_Num.les (k : Nat) : (∀ a0, Le (octet_Num.f k a0) (octet_Num.f (k + 1) a0)) ∧ (∀ a0 a1, Le (octet_Num.l0 k a0 a1) (octet_Num.l0 (k + 1) a0 a1)) := by
  induction k with
  | zero => exact ⟨fun _ => Le.none _, fun _ _ => Le.none _⟩
  | succ k ih =>
    obtain ⟨h0, h1⟩ := ih
    exact ⟨fun _ => Le.cond (Le.refl _) (Le.cond (Le.refl _) (h1 ..)), fun _ _ => Le.cond (Le.bind (Le.refl _) fun _ => (by first | exact Le.bind (Le.refl _) (fun _ => h1 ..) | exact h1 ..)) (Le.bind (Le.refl _) fun _ => Le.refl _)⟩
set_option maxRecDepth 100000 in
theorem octet_Num.le (k : Nat) : ∀ a0, Le (octet_Num.f k a0) (octet_Num.f (k + 1) a0) := (octet_Num.les k).1

set_option maxRecDepth 100000 in
theorem octet_Writer_Num.les (k : Nat) : (∀ a0 a1 a2, Le (octet_Writer_Num.f k a0 a1 a2) (octet_Writer_Num.f (k + 1) a0 a1 a2)) := by
  induction k with
  | zero => exact fun _ _ _ => Le.none _
  | succ k ih =>
    have h0 := ih
    exact fun _ _ _ => Le.bind (octet_Num.le ..) fun _ => Le.cond (Le.bind (Le.refl _) fun _ => Le.refl _) (Le.bind (Le.refl _) fun _ => Le.refl _)
set_option maxRecDepth 100000 in
theorem octet_Writer_Num.le (k : Nat) : ∀ a0 a1 a2, Le (octet_Writer_Num.f k a0 a1 a2) (octet_Writer_Num.f (k + 1) a0 a1 a2) := octet_Writer_Num.les k

set_option maxRecDepth 100000 in
theorem octet_Text.les (k : Nat) : (∀ a0, Le (octet_Text.f k a0) (octet_Text.f (k + 1) a0)) := by
  induction k with
  | zero => exact fun _ => Le.none _
  | succ k ih =>
    have h0 := ih
    exact fun _ => Le.bind (octet_Num.le ..) fun _ => Le.bind (Le.refl _) fun _ => Le.refl _
set_option maxRecDepth 100000 in
theorem octet_Text.le (k : Nat) : ∀ a0, Le (octet_Text.f k a0) (octet_Text.f (k + 1) a0) := octet_Text.les k

set_option maxRecDepth 100000 in
theorem octet_Writer_Text.les (k : Nat) : (∀ a0 a1 a2, Le (octet_Writer_Text.f k a0 a1 a2) (octet_Writer_Text.f (k + 1) a0 a1 a2)) := by
  induction k with
  | zero => exact fun _ _ _ => Le.none _
  | succ k ih =>
    have h0 := ih
    exact fun _ _ _ => Le.bind (octet_Text.le ..) fun _ => Le.bind (Le.refl _) fun _ => Le.refl _
set_option maxRecDepth 100000 in
theorem octet_Writer_Text.le (k : Nat) : ∀ a0 a1 a2, Le (octet_Writer_Text.f k a0 a1 a2) (octet_Writer_Text.f (k + 1) a0 a1 a2) := octet_Writer_Text.les k

set_option maxRecDepth 100000 in
theorem octet_Writer_Texts.les (k : Nat) : (∀ a0 a1 a2, Le (octet_Writer_Texts.f k a0 a1 a2) (octet_Writer_Texts.f (k + 1) a0 a1 a2)) ∧ (∀ a0 a1 a2 a3 a4, Le (octet_Writer_Texts.l0 k a0 a1 a2 a3 a4) (octet_Writer_Texts.l0 (k + 1) a0 a1 a2 a3 a4)) := by
  induction k with
  | zero => exact ⟨fun _ _ _ => Le.none _, fun _ _ _ _ _ => Le.none _⟩
  | succ k ih =>
    obtain ⟨h0, h1⟩ := ih
    exact ⟨fun _ _ _ => Le.bind (octet_Writer_Num.le ..) fun _ => h1 .., fun _ _ _ _ _ => Le.cond (Le.bind (Le.refl _) fun _ => Le.bind (octet_Writer_Text.le ..) fun _ => h1 ..) (Le.refl _)⟩
set_option maxRecDepth 100000 in
theorem octet_Writer_Texts.le (k : Nat) : ∀ a0 a1 a2, Le (octet_Writer_Texts.f k a0 a1 a2) (octet_Writer_Texts.f (k + 1) a0 a1 a2) := (octet_Writer_Texts.les k).1

set_option maxRecDepth 100000 in
theorem octet_Writer_All.les (k : Nat) : (∀ a0 a1, Le (octet_Writer_All.f k a0 a1) (octet_Writer_All.f (k + 1) a0 a1)) := by
  induction k with
  | zero => exact fun _ _ => Le.none _
  | succ k ih =>
    have h0 := ih
    exact fun _ _ => Le.refl _
set_option maxRecDepth 100000 in
theorem octet_Writer_All.le (k : Nat) : ∀ a0 a1, Le (octet_Writer_All.f k a0 a1) (octet_Writer_All.f (k + 1) a0 a1) := octet_Writer_All.les k

set_option maxRecDepth 100000 in
theorem proof_GrowthBytes.les (k : Nat) : (∀ a0, Le (proof_GrowthBytes.f k a0) (proof_GrowthBytes.f (k + 1) a0)) := by
  induction k with
  | zero => exact fun _ => Le.none _
  | succ k ih =>
    have h0 := ih
    exact fun _ => Le.bind (proof_RightGrowth.le ..) fun _ => Le.cond (Le.refl _) (Le.bind (octet_Writer_Num.le ..) fun _ => Le.bind (octet_Writer_Text.le ..) fun _ => Le.bind (octet_Writer_Texts.le ..) fun _ => Le.bind (octet_Writer_All.le ..) fun _ => Le.refl _)
set_option maxRecDepth 100000 in
theorem proof_GrowthBytes.le (k : Nat) : ∀ a0, Le (proof_GrowthBytes.f k a0) (proof_GrowthBytes.f (k + 1) a0) := proof_GrowthBytes.les k

set_option maxRecDepth 100000 in
theorem chartularylaw28_point.les (k : Nat) : (∀ a0, Le (chartularylaw28_point.f k a0) (chartularylaw28_point.f (k + 1) a0)) := by
  induction k with
  | zero => exact fun _ => Le.none _
  | succ k ih =>
    have h0 := ih
    exact fun _ => Le.bind (proof_GrowthBytes.le ..) fun _ => Le.refl _
set_option maxRecDepth 100000 in
theorem chartularylaw28_point.le (k : Nat) : ∀ a0, Le (chartularylaw28_point.f k a0) (chartularylaw28_point.f (k + 1) a0) := chartularylaw28_point.les k

set_option maxRecDepth 100000 in
theorem chartularylaw28_fill.les (k : Nat) : (∀ a0, Le (chartularylaw28_fill.f k a0) (chartularylaw28_fill.f (k + 1) a0)) ∧ (∀ a0 a1 a2, Le (chartularylaw28_fill.l0 k a0 a1 a2) (chartularylaw28_fill.l0 (k + 1) a0 a1 a2)) := by
  induction k with
  | zero => exact ⟨fun _ => Le.none _, fun _ _ _ => Le.none _⟩
  | succ k ih =>
    obtain ⟨h0, h1⟩ := ih
    exact ⟨fun _ => (by first | exact Le.bind (Le.refl _) (fun _ => h1 ..) | exact h1 ..), fun _ _ _ => Le.cond (Le.bind (Le.refl _) fun _ => h1 ..) (Le.refl _)⟩
set_option maxRecDepth 100000 in
theorem chartularylaw28_fill.le (k : Nat) : ∀ a0, Le (chartularylaw28_fill.f k a0) (chartularylaw28_fill.f (k + 1) a0) := (chartularylaw28_fill.les k).1

set_option maxRecDepth 100000 in
theorem chartularylaw28_awake.les (k : Nat) : (Le (chartularylaw28_awake.f k) (chartularylaw28_awake.f (k + 1))) ∧ (∀ a0 a1 a2 a3 a4 a5 a6 a7 a8 a9 a10 a11 a12, Le (chartularylaw28_awake.j0 k a0 a1 a2 a3 a4 a5 a6 a7 a8 a9 a10 a11 a12) (chartularylaw28_awake.j0 (k + 1) a0 a1 a2 a3 a4 a5 a6 a7 a8 a9 a10 a11 a12)) := by
  induction k with
  | zero => exact ⟨Le.none _, fun _ _ _ _ _ _ _ _ _ _ _ _ _ => Le.none _⟩
  | succ k ih =>
    obtain ⟨h0, h1⟩ := ih
    exact ⟨Le.bind (x := mill_New.f k) (y := mill_New.f (k + 1)) (mill_New.le ..) fun _ => Le.bind (x := gossip_New_v0.f k _ _ _ _ _ _) (y := gossip_New_v0.f (k + 1) _ _ _ _ _ _) (gossip_New_v0.le ..) fun _ => Le.cond (Le.refl _) (Le.bind (x := chartularylaw28_fill.f k _) (y := chartularylaw28_fill.f (k + 1) _) (chartularylaw28_fill.le ..) fun _ => Le.bind (x := chartularylaw28_point.f k _) (y := chartularylaw28_point.f (k + 1) _) (chartularylaw28_point.le ..) fun _ => Le.bind (x := gossip_Ring_Tell_v0.f k _ _ _ _ _ _ _ _ _ _ _ _ _ _) (y := gossip_Ring_Tell_v0.f (k + 1) _ _ _ _ _ _ _ _ _ _ _ _ _ _) (gossip_Ring_Tell_v0.le ..) fun _ => Le.cond (Le.refl _) (Le.bind (x := chartularylaw28_fill.f k _) (y := chartularylaw28_fill.f (k + 1) _) (chartularylaw28_fill.le ..) fun _ => Le.bind (x := chartularylaw28_point.f k _) (y := chartularylaw28_point.f (k + 1) _) (chartularylaw28_point.le ..) fun _ => Le.bind (x := gossip_Ring_Tell_v1.f k _ _ _ _ _ _ _ _ _ _ _ _ _ _) (y := gossip_Ring_Tell_v1.f (k + 1) _ _ _ _ _ _ _ _ _ _ _ _ _ _) (gossip_Ring_Tell_v1.le ..) fun _ => Le.cond (Le.refl _) (h1 ..))), fun _ _ _ _ _ _ _ _ _ _ _ _ _ => Le.bind (x := gossip_Ring_Hear_v0.f k _ _ _ _ _ _ _ _ _ _ _ _ _) (y := gossip_Ring_Hear_v0.f (k + 1) _ _ _ _ _ _ _ _ _ _ _ _ _) (gossip_Ring_Hear_v0.le ..) fun _ => Le.cond (Le.cond (Le.bind (x := gossip_Ring_Agree_v0.f k _ _ _ _ _ _ _ _ _ _ _ _ _) (y := gossip_Ring_Agree_v0.f (k + 1) _ _ _ _ _ _ _ _ _ _ _ _ _) (gossip_Ring_Agree_v0.le ..) fun _ => Le.cond (Le.bind (x := gossip_Ring_Forks_v0.f k _ _ _ _ _ _ _ _ _ _ _ _ _) (y := gossip_Ring_Forks_v0.f (k + 1) _ _ _ _ _ _ _ _ _ _ _ _ _) (gossip_Ring_Forks_v0.le ..) fun _ => Le.refl _) (Le.refl _)) (Le.refl _)) (Le.refl _)⟩
set_option maxRecDepth 100000 in
theorem chartularylaw28_awake.le (k : Nat) : Le (chartularylaw28_awake.f k) (chartularylaw28_awake.f (k + 1)) := (chartularylaw28_awake.les k).1

set_option maxRecDepth 100000 in
theorem gossip_New_v1.les (k : Nat) : (∀ a0 a1 a2 a3 a4 a5, Le (gossip_New_v1.f k a0 a1 a2 a3 a4 a5) (gossip_New_v1.f (k + 1) a0 a1 a2 a3 a4 a5)) ∧ (∀ a0 a1 a2 a3 a4 a5 a6, Le (gossip_New_v1.l0 k a0 a1 a2 a3 a4 a5 a6) (gossip_New_v1.l0 (k + 1) a0 a1 a2 a3 a4 a5 a6)) ∧ (∀ a0 a1 a2 a3 a4 a5 a6 a7 a8 a9, Le (gossip_New_v1.l1 k a0 a1 a2 a3 a4 a5 a6 a7 a8 a9) (gossip_New_v1.l1 (k + 1) a0 a1 a2 a3 a4 a5 a6 a7 a8 a9)) ∧ (∀ a0 a1 a2 a3 a4 a5 a6 a7 a8 a9 a10 a11 a12, Le (gossip_New_v1.l2 k a0 a1 a2 a3 a4 a5 a6 a7 a8 a9 a10 a11 a12) (gossip_New_v1.l2 (k + 1) a0 a1 a2 a3 a4 a5 a6 a7 a8 a9 a10 a11 a12)) ∧ (∀ a0 a1 a2 a3 a4 a5 a6 a7 a8 a9 a10 a11 a12 a13 a14 a15, Le (gossip_New_v1.l3 k a0 a1 a2 a3 a4 a5 a6 a7 a8 a9 a10 a11 a12 a13 a14 a15) (gossip_New_v1.l3 (k + 1) a0 a1 a2 a3 a4 a5 a6 a7 a8 a9 a10 a11 a12 a13 a14 a15)) := by
  induction k with
  | zero => exact ⟨fun _ _ _ _ _ _ => Le.none _, fun _ _ _ _ _ _ _ => Le.none _, fun _ _ _ _ _ _ _ _ _ _ => Le.none _, fun _ _ _ _ _ _ _ _ _ _ _ _ _ => Le.none _, fun _ _ _ _ _ _ _ _ _ _ _ _ _ _ _ _ => Le.none _⟩
  | succ k ih =>
    obtain ⟨h0, h1, h2, h3, h4⟩ := ih
    exact ⟨fun _ _ _ _ _ _ => h1 .., fun _ _ _ _ _ _ _ => Le.bind (x := auditor_New.f k _ _ _ _ _ _) (y := auditor_New.f (k + 1) _ _ _ _ _ _) (auditor_New.le ..) fun _ => h2 .., fun _ _ _ _ _ _ _ _ _ _ => Le.bind (x := auditor_New.f k _ _ _ _ _ _) (y := auditor_New.f (k + 1) _ _ _ _ _ _) (auditor_New.le ..) fun _ => h3 .., fun _ _ _ _ _ _ _ _ _ _ _ _ _ => Le.bind (x := auditor_New.f k _ _ _ _ _ _) (y := auditor_New.f (k + 1) _ _ _ _ _ _) (auditor_New.le ..) fun _ => h4 .., fun _ _ _ _ _ _ _ _ _ _ _ _ _ _ _ _ => Le.refl _⟩
set_option maxRecDepth 100000 in
theorem gossip_New_v1.le (k : Nat) : ∀ a0 a1 a2 a3 a4 a5, Le (gossip_New_v1.f k a0 a1 a2 a3 a4 a5) (gossip_New_v1.f (k + 1) a0 a1 a2 a3 a4 a5) := (gossip_New_v1.les k).1

set_option maxRecDepth 100000 in
theorem gossip_Ring_Forks_v2.les (k : Nat) : (∀ a0 a1 a2 a3 a4 a5 a6 a7 a8 a9 a10 a11 a12 a13 a14 a15, Le (gossip_Ring_Forks_v2.f k a0 a1 a2 a3 a4 a5 a6 a7 a8 a9 a10 a11 a12 a13 a14 a15) (gossip_Ring_Forks_v2.f (k + 1) a0 a1 a2 a3 a4 a5 a6 a7 a8 a9 a10 a11 a12 a13 a14 a15)) := by
  induction k with
  | zero => exact fun _ _ _ _ _ _ _ _ _ _ _ _ _ _ _ _ => Le.none _
  | succ k ih =>
    have h0 := ih
    exact fun _ _ _ _ _ _ _ _ _ _ _ _ _ _ _ _ => Le.refl _
set_option maxRecDepth 100000 in
theorem gossip_Ring_Forks_v2.le (k : Nat) : ∀ a0 a1 a2 a3 a4 a5 a6 a7 a8 a9 a10 a11 a12 a13 a14 a15, Le (gossip_Ring_Forks_v2.f k a0 a1 a2 a3 a4 a5 a6 a7 a8 a9 a10 a11 a12 a13 a14 a15) (gossip_Ring_Forks_v2.f (k + 1) a0 a1 a2 a3 a4 a5 a6 a7 a8 a9 a10 a11 a12 a13 a14 a15) := gossip_Ring_Forks_v2.les k

set_option maxRecDepth 100000 in
theorem gossip_Ring_Agree_v2.les (k : Nat) : (∀ a0 a1 a2 a3 a4 a5 a6 a7 a8 a9 a10 a11 a12 a13 a14 a15, Le (gossip_Ring_Agree_v2.f k a0 a1 a2 a3 a4 a5 a6 a7 a8 a9 a10 a11 a12 a13 a14 a15) (gossip_Ring_Agree_v2.f (k + 1) a0 a1 a2 a3 a4 a5 a6 a7 a8 a9 a10 a11 a12 a13 a14 a15)) ∧ (∀ a0 a1 a2 a3 a4 a5 a6 a7 a8 a9 a10 a11 a12 a13 a14 a15, Le (gossip_Ring_Agree_v2.l0 k a0 a1 a2 a3 a4 a5 a6 a7 a8 a9 a10 a11 a12 a13 a14 a15) (gossip_Ring_Agree_v2.l0 (k + 1) a0 a1 a2 a3 a4 a5 a6 a7 a8 a9 a10 a11 a12 a13 a14 a15)) ∧ (∀ a0 a1 a2 a3 a4 a5 a6 a7 a8 a9 a10 a11 a12 a13 a14 a15, Le (gossip_Ring_Agree_v2.l1 k a0 a1 a2 a3 a4 a5 a6 a7 a8 a9 a10 a11 a12 a13 a14 a15) (gossip_Ring_Agree_v2.l1 (k + 1) a0 a1 a2 a3 a4 a5 a6 a7 a8 a9 a10 a11 a12 a13 a14 a15)) ∧ (∀ a0 a1 a2 a3 a4 a5 a6 a7 a8 a9 a10 a11 a12 a13 a14 a15, Le (gossip_Ring_Agree_v2.l2 k a0 a1 a2 a3 a4 a5 a6 a7 a8 a9 a10 a11 a12 a13 a14 a15) (gossip_Ring_Agree_v2.l2 (k + 1) a0 a1 a2 a3 a4 a5 a6 a7 a8 a9 a10 a11 a12 a13 a14 a15)) ∧ (∀ a0 a1 a2 a3 a4 a5 a6 a7 a8 a9 a10 a11 a12 a13 a14 a15, Le (gossip_Ring_Agree_v2.l3 k a0 a1 a2 a3 a4 a5 a6 a7 a8 a9 a10 a11 a12 a13 a14 a15) (gossip_Ring_Agree_v2.l3 (k + 1) a0 a1 a2 a3 a4 a5 a6 a7 a8 a9 a10 a11 a12 a13 a14 a15)) ∧ (∀ a0 a1 a2 a3 a4 a5 a6 a7 a8 a9 a10 a11 a12 a13 a14 a15, Le (gossip_Ring_Agree_v2.l5 k a0 a1 a2 a3 a4 a5 a6 a7 a8 a9 a10 a11 a12 a13 a14 a15) (gossip_Ring_Agree_v2.l5 (k + 1) a0 a1 a2 a3 a4 a5 a6 a7 a8 a9 a10 a11 a12 a13 a14 a15)) ∧ (∀ a0 a1 a2 a3 a4 a5 a6 a7 a8 a9 a10 a11 a12 a13 a14 a15, Le (gossip_Ring_Agree_v2.l4 k a0 a1 a2 a3 a4 a5 a6 a7 a8 a9 a10 a11 a12 a13 a14 a15) (gossip_Ring_Agree_v2.l4 (k + 1) a0 a1 a2 a3 a4 a5 a6 a7 a8 a9 a10 a11 a12 a13 a14 a15)) ∧ (∀ a0 a1 a2 a3 a4 a5 a6 a7 a8 a9 a10 a11 a12 a13 a14 a15, Le (gossip_Ring_Agree_v2.l9 k a0 a1 a2 a3 a4 a5 a6 a7 a8 a9 a10 a11 a12 a13 a14 a15) (gossip_Ring_Agree_v2.l9 (k + 1) a0 a1 a2 a3 a4 a5 a6 a7 a8 a9 a10 a11 a12 a13 a14 a15)) ∧ (∀ a0 a1 a2 a3 a4 a5 a6 a7 a8 a9 a10 a11 a12 a13 a14 a15, Le (gossip_Ring_Agree_v2.l6 k a0 a1 a2 a3 a4 a5 a6 a7 a8 a9 a10 a11 a12 a13 a14 a15) (gossip_Ring_Agree_v2.l6 (k + 1) a0 a1 a2 a3 a4 a5 a6 a7 a8 a9 a10 a11 a12 a13 a14 a15)) ∧ (∀ a0 a1 a2 a3 a4 a5 a6 a7 a8 a9 a10 a11 a12 a13 a14 a15, Le (gossip_Ring_Agree_v2.l7 k a0 a1 a2 a3 a4 a5 a6 a7 a8 a9 a10 a11 a12 a13 a14 a15) (gossip_Ring_Agree_v2.l7 (k + 1) a0 a1 a2 a3 a4 a5 a6 a7 a8 a9 a10 a11 a12 a13 a14 a15)) ∧ (∀ a0 a1 a2 a3 a4 a5 a6 a7 a8 a9 a10 a11 a12 a13 a14 a15, Le (gossip_Ring_Agree_v2.l8 k a0 a1 a2 a3 a4 a5 a6 a7 a8 a9 a10 a11 a12 a13 a14 a15) (gossip_Ring_Agree_v2.l8 (k + 1) a0 a1 a2 a3 a4 a5 a6 a7 a8 a9 a10 a11 a12 a13 a14 a15)) := by
  induction k with
  | zero => exact ⟨fun _ _ _ _ _ _ _ _ _ _ _ _ _ _ _ _ => Le.none _, fun _ _ _ _ _ _ _ _ _ _ _ _ _ _ _ _ => Le.none _, fun _ _ _ _ _ _ _ _ _ _ _ _ _ _ _ _ => Le.none _, fun _ _ _ _ _ _ _ _ _ _ _ _ _ _ _ _ => Le.none _, fun _ _ _ _ _ _ _ _ _ _ _ _ _ _ _ _ => Le.none _, fun _ _ _ _ _ _ _ _ _ _ _ _ _ _ _ _ => Le.none _, fun _ _ _ _ _ _ _ _ _ _ _ _ _ _ _ _ => Le.none _, fun _ _ _ _ _ _ _ _ _ _ _ _ _ _ _ _ => Le.none _, fun _ _ _ _ _ _ _ _ _ _ _ _ _ _ _ _ => Le.none _, fun _ _ _ _ _ _ _ _ _ _ _ _ _ _ _ _ => Le.none _, fun _ _ _ _ _ _ _ _ _ _ _ _ _ _ _ _ => Le.none _⟩
  | succ k ih =>
    obtain ⟨h0, h1, h2, h3, h4, h5, h6, h7, h8, h9, h10⟩ := ih
    exact ⟨fun _ _ _ _ _ _ _ _ _ _ _ _ _ _ _ _ => h1 .., fun _ _ _ _ _ _ _ _ _ _ _ _ _ _ _ _ => h2 .., fun _ _ _ _ _ _ _ _ _ _ _ _ _ _ _ _ => h3 .., fun _ _ _ _ _ _ _ _ _ _ _ _ _ _ _ _ => h4 .., fun _ _ _ _ _ _ _ _ _ _ _ _ _ _ _ _ => Le.bind (x := auditor_Auditor_Points.f k _ _ _ _ _ _ _ _ _) (y := auditor_Auditor_Points.f (k + 1) _ _ _ _ _ _ _ _ _) (auditor_Auditor_Points.le ..) fun _ => Le.bind (x := auditor_Auditor_Points.f k _ _ _ _ _ _ _ _ _) (y := auditor_Auditor_Points.f (k + 1) _ _ _ _ _ _ _ _ _) (auditor_Auditor_Points.le ..) fun _ => Le.bind (x := gossip_Compare.f k _ _) (y := gossip_Compare.f (k + 1) _ _) (gossip_Compare.le ..) fun _ => Le.cond (Le.refl _) (h6 ..), fun _ _ _ _ _ _ _ _ _ _ _ _ _ _ _ _ => h8 .., fun _ _ _ _ _ _ _ _ _ _ _ _ _ _ _ _ => h5 .., fun _ _ _ _ _ _ _ _ _ _ _ _ _ _ _ _ => Le.refl _, fun _ _ _ _ _ _ _ _ _ _ _ _ _ _ _ _ => Le.bind (x := auditor_Auditor_Points.f k _ _ _ _ _ _ _ _ _) (y := auditor_Auditor_Points.f (k + 1) _ _ _ _ _ _ _ _ _) (auditor_Auditor_Points.le ..) fun _ => Le.bind (x := auditor_Auditor_Points.f k _ _ _ _ _ _ _ _ _) (y := auditor_Auditor_Points.f (k + 1) _ _ _ _ _ _ _ _ _) (auditor_Auditor_Points.le ..) fun _ => Le.bind (x := gossip_Compare.f k _ _) (y := gossip_Compare.f (k + 1) _ _) (gossip_Compare.le ..) fun _ => Le.cond (Le.refl _) (h9 ..), fun _ _ _ _ _ _ _ _ _ _ _ _ _ _ _ _ => Le.bind (x := auditor_Auditor_Points.f k _ _ _ _ _ _ _ _ _) (y := auditor_Auditor_Points.f (k + 1) _ _ _ _ _ _ _ _ _) (auditor_Auditor_Points.le ..) fun _ => Le.bind (x := auditor_Auditor_Points.f k _ _ _ _ _ _ _ _ _) (y := auditor_Auditor_Points.f (k + 1) _ _ _ _ _ _ _ _ _) (auditor_Auditor_Points.le ..) fun _ => Le.bind (x := gossip_Compare.f k _ _) (y := gossip_Compare.f (k + 1) _ _) (gossip_Compare.le ..) fun _ => Le.cond (Le.refl _) (h10 ..), fun _ _ _ _ _ _ _ _ _ _ _ _ _ _ _ _ => h7 ..⟩
set_option maxRecDepth 100000 in
theorem gossip_Ring_Agree_v2.le (k : Nat) : ∀ a0 a1 a2 a3 a4 a5 a6 a7 a8 a9 a10 a11 a12 a13 a14 a15, Le (gossip_Ring_Agree_v2.f k a0 a1 a2 a3 a4 a5 a6 a7 a8 a9 a10 a11 a12 a13 a14 a15) (gossip_Ring_Agree_v2.f (k + 1) a0 a1 a2 a3 a4 a5 a6 a7 a8 a9 a10 a11 a12 a13 a14 a15) := (gossip_Ring_Agree_v2.les k).1

set_option maxRecDepth 100000 in
theorem gossip_at_auditor_Auditor_v2.les (k : Nat) : (∀ a0 a1 a2 a3 a4 a5 a6 a7 a8 a9 a10 a11 a12 a13 a14, Le (gossip_at_auditor_Auditor_v2.f k a0 a1 a2 a3 a4 a5 a6 a7 a8 a9 a10 a11 a12 a13 a14) (gossip_at_auditor_Auditor_v2.f (k + 1) a0 a1 a2 a3 a4 a5 a6 a7 a8 a9 a10 a11 a12 a13 a14)) := by
  induction k with
  | zero => exact fun _ _ _ _ _ _ _ _ _ _ _ _ _ _ _ => Le.none _
  | succ k ih =>
    have h0 := ih
    exact fun _ _ _ _ _ _ _ _ _ _ _ _ _ _ _ => Le.refl _
set_option maxRecDepth 100000 in
theorem gossip_at_auditor_Auditor_v2.le (k : Nat) : ∀ a0 a1 a2 a3 a4 a5 a6 a7 a8 a9 a10 a11 a12 a13 a14, Le (gossip_at_auditor_Auditor_v2.f k a0 a1 a2 a3 a4 a5 a6 a7 a8 a9 a10 a11 a12 a13 a14) (gossip_at_auditor_Auditor_v2.f (k + 1) a0 a1 a2 a3 a4 a5 a6 a7 a8 a9 a10 a11 a12 a13 a14) := gossip_at_auditor_Auditor_v2.les k

set_option maxRecDepth 100000 in
theorem gossip_Ring_Auditor_v3.les (k : Nat) : (∀ a0 a1 a2 a3 a4 a5 a6 a7 a8 a9 a10 a11 a12 a13 a14 a15, Le (gossip_Ring_Auditor_v3.f k a0 a1 a2 a3 a4 a5 a6 a7 a8 a9 a10 a11 a12 a13 a14 a15) (gossip_Ring_Auditor_v3.f (k + 1) a0 a1 a2 a3 a4 a5 a6 a7 a8 a9 a10 a11 a12 a13 a14 a15)) := by
  induction k with
  | zero => exact fun _ _ _ _ _ _ _ _ _ _ _ _ _ _ _ _ => Le.none _
  | succ k ih =>
    have h0 := ih
    exact fun _ _ _ _ _ _ _ _ _ _ _ _ _ _ _ _ => Le.bind (x := gossip_at_auditor_Auditor_v2.f k _ _ _ _ _ _ _ _ _ _ _ _ _ _ _) (y := gossip_at_auditor_Auditor_v2.f (k + 1) _ _ _ _ _ _ _ _ _ _ _ _ _ _ _) (gossip_at_auditor_Auditor_v2.le ..) fun _ => Le.refl _
set_option maxRecDepth 100000 in
theorem gossip_Ring_Auditor_v3.le (k : Nat) : ∀ a0 a1 a2 a3 a4 a5 a6 a7 a8 a9 a10 a11 a12 a13 a14 a15, Le (gossip_Ring_Auditor_v3.f k a0 a1 a2 a3 a4 a5 a6 a7 a8 a9 a10 a11 a12 a13 a14 a15) (gossip_Ring_Auditor_v3.f (k + 1) a0 a1 a2 a3 a4 a5 a6 a7 a8 a9 a10 a11 a12 a13 a14 a15) := gossip_Ring_Auditor_v3.les k

set_option maxRecDepth 100000 in
theorem gossip_at_auditor_Auditor_v3.les (k : Nat) : (∀ a0 a1 a2 a3 a4 a5 a6 a7 a8 a9 a10 a11 a12 a13 a14, Le (gossip_at_auditor_Auditor_v3.f k a0 a1 a2 a3 a4 a5 a6 a7 a8 a9 a10 a11 a12 a13 a14) (gossip_at_auditor_Auditor_v3.f (k + 1) a0 a1 a2 a3 a4 a5 a6 a7 a8 a9 a10 a11 a12 a13 a14)) := by
  induction k with
  | zero => exact fun _ _ _ _ _ _ _ _ _ _ _ _ _ _ _ => Le.none _
  | succ k ih =>
    have h0 := ih
    exact fun _ _ _ _ _ _ _ _ _ _ _ _ _ _ _ => Le.refl _
set_option maxRecDepth 100000 in
theorem gossip_at_auditor_Auditor_v3.le (k : Nat) : ∀ a0 a1 a2 a3 a4 a5 a6 a7 a8 a9 a10 a11 a12 a13 a14, Le (gossip_at_auditor_Auditor_v3.f k a0 a1 a2 a3 a4 a5 a6 a7 a8 a9 a10 a11 a12 a13 a14) (gossip_at_auditor_Auditor_v3.f (k + 1) a0 a1 a2 a3 a4 a5 a6 a7 a8 a9 a10 a11 a12 a13 a14) := gossip_at_auditor_Auditor_v3.les k

set_option maxRecDepth 100000 in
theorem gossip_Ring_Auditor_v4.les (k : Nat) : (∀ a0 a1 a2 a3 a4 a5 a6 a7 a8 a9 a10 a11 a12 a13 a14 a15, Le (gossip_Ring_Auditor_v4.f k a0 a1 a2 a3 a4 a5 a6 a7 a8 a9 a10 a11 a12 a13 a14 a15) (gossip_Ring_Auditor_v4.f (k + 1) a0 a1 a2 a3 a4 a5 a6 a7 a8 a9 a10 a11 a12 a13 a14 a15)) := by
  induction k with
  | zero => exact fun _ _ _ _ _ _ _ _ _ _ _ _ _ _ _ _ => Le.none _
  | succ k ih =>
    have h0 := ih
    exact fun _ _ _ _ _ _ _ _ _ _ _ _ _ _ _ _ => Le.bind (x := gossip_at_auditor_Auditor_v3.f k _ _ _ _ _ _ _ _ _ _ _ _ _ _ _) (y := gossip_at_auditor_Auditor_v3.f (k + 1) _ _ _ _ _ _ _ _ _ _ _ _ _ _ _) (gossip_at_auditor_Auditor_v3.le ..) fun _ => Le.refl _
set_option maxRecDepth 100000 in
theorem gossip_Ring_Auditor_v4.le (k : Nat) : ∀ a0 a1 a2 a3 a4 a5 a6 a7 a8 a9 a10 a11 a12 a13 a14 a15, Le (gossip_Ring_Auditor_v4.f k a0 a1 a2 a3 a4 a5 a6 a7 a8 a9 a10 a11 a12 a13 a14 a15) (gossip_Ring_Auditor_v4.f (k + 1) a0 a1 a2 a3 a4 a5 a6 a7 a8 a9 a10 a11 a12 a13 a14 a15) := gossip_Ring_Auditor_v4.les k

set_option maxRecDepth 100000 in
theorem gossip_at_auditor_Auditor_v4.les (k : Nat) : (∀ a0 a1 a2 a3 a4 a5 a6 a7 a8 a9 a10 a11 a12 a13 a14, Le (gossip_at_auditor_Auditor_v4.f k a0 a1 a2 a3 a4 a5 a6 a7 a8 a9 a10 a11 a12 a13 a14) (gossip_at_auditor_Auditor_v4.f (k + 1) a0 a1 a2 a3 a4 a5 a6 a7 a8 a9 a10 a11 a12 a13 a14)) := by
  induction k with
  | zero => exact fun _ _ _ _ _ _ _ _ _ _ _ _ _ _ _ => Le.none _
  | succ k ih =>
    have h0 := ih
    exact fun _ _ _ _ _ _ _ _ _ _ _ _ _ _ _ => Le.refl _
set_option maxRecDepth 100000 in
theorem gossip_at_auditor_Auditor_v4.le (k : Nat) : ∀ a0 a1 a2 a3 a4 a5 a6 a7 a8 a9 a10 a11 a12 a13 a14, Le (gossip_at_auditor_Auditor_v4.f k a0 a1 a2 a3 a4 a5 a6 a7 a8 a9 a10 a11 a12 a13 a14) (gossip_at_auditor_Auditor_v4.f (k + 1) a0 a1 a2 a3 a4 a5 a6 a7 a8 a9 a10 a11 a12 a13 a14) := gossip_at_auditor_Auditor_v4.les k

set_option maxRecDepth 100000 in
theorem gossip_Ring_Auditor_v5.les (k : Nat) : (∀ a0 a1 a2 a3 a4 a5 a6 a7 a8 a9 a10 a11 a12 a13 a14 a15, Le (gossip_Ring_Auditor_v5.f k a0 a1 a2 a3 a4 a5 a6 a7 a8 a9 a10 a11 a12 a13 a14 a15) (gossip_Ring_Auditor_v5.f (k + 1) a0 a1 a2 a3 a4 a5 a6 a7 a8 a9 a10 a11 a12 a13 a14 a15)) := by
  induction k with
  | zero => exact fun _ _ _ _ _ _ _ _ _ _ _ _ _ _ _ _ => Le.none _
  | succ k ih =>
    have h0 := ih
    exact fun _ _ _ _ _ _ _ _ _ _ _ _ _ _ _ _ => Le.bind (x := gossip_at_auditor_Auditor_v4.f k _ _ _ _ _ _ _ _ _ _ _ _ _ _ _) (y := gossip_at_auditor_Auditor_v4.f (k + 1) _ _ _ _ _ _ _ _ _ _ _ _ _ _ _) (gossip_at_auditor_Auditor_v4.le ..) fun _ => Le.refl _
set_option maxRecDepth 100000 in
theorem gossip_Ring_Auditor_v5.le (k : Nat) : ∀ a0 a1 a2 a3 a4 a5 a6 a7 a8 a9 a10 a11 a12 a13 a14 a15, Le (gossip_Ring_Auditor_v5.f k a0 a1 a2 a3 a4 a5 a6 a7 a8 a9 a10 a11 a12 a13 a14 a15) (gossip_Ring_Auditor_v5.f (k + 1) a0 a1 a2 a3 a4 a5 a6 a7 a8 a9 a10 a11 a12 a13 a14 a15) := gossip_Ring_Auditor_v5.les k

set_option maxRecDepth 100000 in
theorem gossip_at_auditor_Auditor_v5.les (k : Nat) : (∀ a0 a1 a2 a3 a4 a5 a6 a7 a8 a9 a10 a11 a12 a13 a14 a15, Le (gossip_at_auditor_Auditor_v5.f k a0 a1 a2 a3 a4 a5 a6 a7 a8 a9 a10 a11 a12 a13 a14 a15) (gossip_at_auditor_Auditor_v5.f (k + 1) a0 a1 a2 a3 a4 a5 a6 a7 a8 a9 a10 a11 a12 a13 a14 a15)) := by
  induction k with
  | zero => exact fun _ _ _ _ _ _ _ _ _ _ _ _ _ _ _ _ => Le.none _
  | succ k ih =>
    have h0 := ih
    exact fun _ _ _ _ _ _ _ _ _ _ _ _ _ _ _ _ => Le.refl _
set_option maxRecDepth 100000 in
theorem gossip_at_auditor_Auditor_v5.le (k : Nat) : ∀ a0 a1 a2 a3 a4 a5 a6 a7 a8 a9 a10 a11 a12 a13 a14 a15, Le (gossip_at_auditor_Auditor_v5.f k a0 a1 a2 a3 a4 a5 a6 a7 a8 a9 a10 a11 a12 a13 a14 a15) (gossip_at_auditor_Auditor_v5.f (k + 1) a0 a1 a2 a3 a4 a5 a6 a7 a8 a9 a10 a11 a12 a13 a14 a15) := gossip_at_auditor_Auditor_v5.les k

set_option maxRecDepth 100000 in
theorem gossip_Ring_Auditor_v6.les (k : Nat) : (∀ a0 a1 a2 a3 a4 a5 a6 a7 a8 a9 a10 a11 a12 a13 a14 a15 a16, Le (gossip_Ring_Auditor_v6.f k a0 a1 a2 a3 a4 a5 a6 a7 a8 a9 a10 a11 a12 a13 a14 a15 a16) (gossip_Ring_Auditor_v6.f (k + 1) a0 a1 a2 a3 a4 a5 a6 a7 a8 a9 a10 a11 a12 a13 a14 a15 a16)) := by
  induction k with
  | zero => exact fun _ _ _ _ _ _ _ _ _ _ _ _ _ _ _ _ _ => Le.none _
  | succ k ih =>
    have h0 := ih
    exact fun _ _ _ _ _ _ _ _ _ _ _ _ _ _ _ _ _ => Le.bind (x := gossip_at_auditor_Auditor_v5.f k _ _ _ _ _ _ _ _ _ _ _ _ _ _ _ _) (y := gossip_at_auditor_Auditor_v5.f (k + 1) _ _ _ _ _ _ _ _ _ _ _ _ _ _ _ _) (gossip_at_auditor_Auditor_v5.le ..) fun _ => Le.refl _
set_option maxRecDepth 100000 in
theorem gossip_Ring_Auditor_v6.le (k : Nat) : ∀ a0 a1 a2 a3 a4 a5 a6 a7 a8 a9 a10 a11 a12 a13 a14 a15 a16, Le (gossip_Ring_Auditor_v6.f k a0 a1 a2 a3 a4 a5 a6 a7 a8 a9 a10 a11 a12 a13 a14 a15 a16) (gossip_Ring_Auditor_v6.f (k + 1) a0 a1 a2 a3 a4 a5 a6 a7 a8 a9 a10 a11 a12 a13 a14 a15 a16) := gossip_Ring_Auditor_v6.les k

set_option maxRecDepth 100000 in
theorem gossip_Ring_Hear_v10.les (k : Nat) : (∀ a0 a1 a2 a3 a4 a5 a6 a7 a8 a9 a10 a11 a12 a13 a14 a15, Le (gossip_Ring_Hear_v10.f k a0 a1 a2 a3 a4 a5 a6 a7 a8 a9 a10 a11 a12 a13 a14 a15) (gossip_Ring_Hear_v10.f (k + 1) a0 a1 a2 a3 a4 a5 a6 a7 a8 a9 a10 a11 a12 a13 a14 a15)) := by
  induction k with
  | zero => exact fun _ _ _ _ _ _ _ _ _ _ _ _ _ _ _ _ => Le.none _
  | succ k ih =>
    have h0 := ih
    exact fun _ _ _ _ _ _ _ _ _ _ _ _ _ _ _ _ => Le.bind (x := gossip_Ring_Auditor_v3.f k _ _ _ _ _ _ _ _ _ _ _ _ _ _ _ _) (y := gossip_Ring_Auditor_v3.f (k + 1) _ _ _ _ _ _ _ _ _ _ _ _ _ _ _ _) (gossip_Ring_Auditor_v3.le ..) fun _ => Le.bind (x := gossip_Ring_Auditor_v3.f k _ _ _ _ _ _ _ _ _ _ _ _ _ _ _ _) (y := gossip_Ring_Auditor_v3.f (k + 1) _ _ _ _ _ _ _ _ _ _ _ _ _ _ _ _) (gossip_Ring_Auditor_v3.le ..) fun _ => Le.bind (x := auditor_Auditor_Points.f k _ _ _ _ _ _ _ _ _) (y := auditor_Auditor_Points.f (k + 1) _ _ _ _ _ _ _ _ _) (auditor_Auditor_Points.le ..) fun _ => Le.bind (x := auditor_Auditor_Points.f k _ _ _ _ _ _ _ _ _) (y := auditor_Auditor_Points.f (k + 1) _ _ _ _ _ _ _ _ _) (auditor_Auditor_Points.le ..) fun _ => Le.bind (x := gossip_Compare.f k _ _) (y := gossip_Compare.f (k + 1) _ _) (gossip_Compare.le ..) fun _ => Le.cond (Le.bind (Le.refl _) fun _ => Le.refl _) (Le.refl _)
set_option maxRecDepth 100000 in
theorem gossip_Ring_Hear_v10.le (k : Nat) : ∀ a0 a1 a2 a3 a4 a5 a6 a7 a8 a9 a10 a11 a12 a13 a14 a15, Le (gossip_Ring_Hear_v10.f k a0 a1 a2 a3 a4 a5 a6 a7 a8 a9 a10 a11 a12 a13 a14 a15) (gossip_Ring_Hear_v10.f (k + 1) a0 a1 a2 a3 a4 a5 a6 a7 a8 a9 a10 a11 a12 a13 a14 a15) := gossip_Ring_Hear_v10.les k

set_option maxRecDepth 100000 in
theorem gossip_Ring_Hear_v2.les (k : Nat) : (∀ a0 a1 a2 a3 a4 a5 a6 a7 a8 a9 a10 a11 a12 a13 a14 a15, Le (gossip_Ring_Hear_v2.f k a0 a1 a2 a3 a4 a5 a6 a7 a8 a9 a10 a11 a12 a13 a14 a15) (gossip_Ring_Hear_v2.f (k + 1) a0 a1 a2 a3 a4 a5 a6 a7 a8 a9 a10 a11 a12 a13 a14 a15)) := by
  induction k with
  | zero => exact fun _ _ _ _ _ _ _ _ _ _ _ _ _ _ _ _ => Le.none _
  | succ k ih =>
    have h0 := ih
    exact fun _ _ _ _ _ _ _ _ _ _ _ _ _ _ _ _ => Le.bind (x := gossip_Ring_Auditor_v5.f k _ _ _ _ _ _ _ _ _ _ _ _ _ _ _ _) (y := gossip_Ring_Auditor_v5.f (k + 1) _ _ _ _ _ _ _ _ _ _ _ _ _ _ _ _) (gossip_Ring_Auditor_v5.le ..) fun _ => Le.bind (x := gossip_Ring_Auditor_v5.f k _ _ _ _ _ _ _ _ _ _ _ _ _ _ _ _) (y := gossip_Ring_Auditor_v5.f (k + 1) _ _ _ _ _ _ _ _ _ _ _ _ _ _ _ _) (gossip_Ring_Auditor_v5.le ..) fun _ => Le.bind (x := auditor_Auditor_Points.f k _ _ _ _ _ _ _ _ _) (y := auditor_Auditor_Points.f (k + 1) _ _ _ _ _ _ _ _ _) (auditor_Auditor_Points.le ..) fun _ => Le.bind (x := auditor_Auditor_Points.f k _ _ _ _ _ _ _ _ _) (y := auditor_Auditor_Points.f (k + 1) _ _ _ _ _ _ _ _ _) (auditor_Auditor_Points.le ..) fun _ => Le.bind (x := gossip_Compare.f k _ _) (y := gossip_Compare.f (k + 1) _ _) (gossip_Compare.le ..) fun _ => Le.cond (Le.bind (Le.refl _) fun _ => Le.refl _) (Le.refl _)
set_option maxRecDepth 100000 in
theorem gossip_Ring_Hear_v2.le (k : Nat) : ∀ a0 a1 a2 a3 a4 a5 a6 a7 a8 a9 a10 a11 a12 a13 a14 a15, Le (gossip_Ring_Hear_v2.f k a0 a1 a2 a3 a4 a5 a6 a7 a8 a9 a10 a11 a12 a13 a14 a15) (gossip_Ring_Hear_v2.f (k + 1) a0 a1 a2 a3 a4 a5 a6 a7 a8 a9 a10 a11 a12 a13 a14 a15) := gossip_Ring_Hear_v2.les k

set_option maxRecDepth 100000 in
theorem gossip_Ring_Hear_v3.les (k : Nat) : (∀ a0 a1 a2 a3 a4 a5 a6 a7 a8 a9 a10 a11 a12 a13 a14 a15, Le (gossip_Ring_Hear_v3.f k a0 a1 a2 a3 a4 a5 a6 a7 a8 a9 a10 a11 a12 a13 a14 a15) (gossip_Ring_Hear_v3.f (k + 1) a0 a1 a2 a3 a4 a5 a6 a7 a8 a9 a10 a11 a12 a13 a14 a15)) := by
  induction k with
  | zero => exact fun _ _ _ _ _ _ _ _ _ _ _ _ _ _ _ _ => Le.none _
  | succ k ih =>
    have h0 := ih
    exact fun _ _ _ _ _ _ _ _ _ _ _ _ _ _ _ _ => Le.bind (x := gossip_Ring_Auditor_v5.f k _ _ _ _ _ _ _ _ _ _ _ _ _ _ _ _) (y := gossip_Ring_Auditor_v5.f (k + 1) _ _ _ _ _ _ _ _ _ _ _ _ _ _ _ _) (gossip_Ring_Auditor_v5.le ..) fun _ => Le.bind (x := gossip_Ring_Auditor_v4.f k _ _ _ _ _ _ _ _ _ _ _ _ _ _ _ _) (y := gossip_Ring_Auditor_v4.f (k + 1) _ _ _ _ _ _ _ _ _ _ _ _ _ _ _ _) (gossip_Ring_Auditor_v4.le ..) fun _ => Le.bind (x := auditor_Auditor_Points.f k _ _ _ _ _ _ _ _ _) (y := auditor_Auditor_Points.f (k + 1) _ _ _ _ _ _ _ _ _) (auditor_Auditor_Points.le ..) fun _ => Le.bind (x := auditor_Auditor_Points.f k _ _ _ _ _ _ _ _ _) (y := auditor_Auditor_Points.f (k + 1) _ _ _ _ _ _ _ _ _) (auditor_Auditor_Points.le ..) fun _ => Le.bind (x := gossip_Compare.f k _ _) (y := gossip_Compare.f (k + 1) _ _) (gossip_Compare.le ..) fun _ => Le.cond (Le.bind (Le.refl _) fun _ => Le.refl _) (Le.refl _)
set_option maxRecDepth 100000 in
theorem gossip_Ring_Hear_v3.le (k : Nat) : ∀ a0 a1 a2 a3 a4 a5 a6 a7 a8 a9 a10 a11 a12 a13 a14 a15, Le (gossip_Ring_Hear_v3.f k a0 a1 a2 a3 a4 a5 a6 a7 a8 a9 a10 a11 a12 a13 a14 a15) (gossip_Ring_Hear_v3.f (k + 1) a0 a1 a2 a3 a4 a5 a6 a7 a8 a9 a10 a11 a12 a13 a14 a15) := gossip_Ring_Hear_v3.les k

set_option maxRecDepth 100000 in
theorem gossip_Ring_Hear_v4.les (k : Nat) : (∀ a0 a1 a2 a3 a4 a5 a6 a7 a8 a9 a10 a11 a12 a13 a14 a15, Le (gossip_Ring_Hear_v4.f k a0 a1 a2 a3 a4 a5 a6 a7 a8 a9 a10 a11 a12 a13 a14 a15) (gossip_Ring_Hear_v4.f (k + 1) a0 a1 a2 a3 a4 a5 a6 a7 a8 a9 a10 a11 a12 a13 a14 a15)) := by
  induction k with
  | zero => exact fun _ _ _ _ _ _ _ _ _ _ _ _ _ _ _ _ => Le.none _
  | succ k ih =>
    have h0 := ih
    exact fun _ _ _ _ _ _ _ _ _ _ _ _ _ _ _ _ => Le.bind (x := gossip_Ring_Auditor_v5.f k _ _ _ _ _ _ _ _ _ _ _ _ _ _ _ _) (y := gossip_Ring_Auditor_v5.f (k + 1) _ _ _ _ _ _ _ _ _ _ _ _ _ _ _ _) (gossip_Ring_Auditor_v5.le ..) fun _ => Le.bind (x := gossip_Ring_Auditor_v3.f k _ _ _ _ _ _ _ _ _ _ _ _ _ _ _ _) (y := gossip_Ring_Auditor_v3.f (k + 1) _ _ _ _ _ _ _ _ _ _ _ _ _ _ _ _) (gossip_Ring_Auditor_v3.le ..) fun _ => Le.bind (x := auditor_Auditor_Points.f k _ _ _ _ _ _ _ _ _) (y := auditor_Auditor_Points.f (k + 1) _ _ _ _ _ _ _ _ _) (auditor_Auditor_Points.le ..) fun _ => Le.bind (x := auditor_Auditor_Points.f k _ _ _ _ _ _ _ _ _) (y := auditor_Auditor_Points.f (k + 1) _ _ _ _ _ _ _ _ _) (auditor_Auditor_Points.le ..) fun _ => Le.bind (x := gossip_Compare.f k _ _) (y := gossip_Compare.f (k + 1) _ _) (gossip_Compare.le ..) fun _ => Le.cond (Le.bind (Le.refl _) fun _ => Le.refl _) (Le.refl _)
set_option maxRecDepth 100000 in
theorem gossip_Ring_Hear_v4.le (k : Nat) : ∀ a0 a1 a2 a3 a4 a5 a6 a7 a8 a9 a10 a11 a12 a13 a14 a15, Le (gossip_Ring_Hear_v4.f k a0 a1 a2 a3 a4 a5 a6 a7 a8 a9 a10 a11 a12 a13 a14 a15) (gossip_Ring_Hear_v4.f (k + 1) a0 a1 a2 a3 a4 a5 a6 a7 a8 a9 a10 a11 a12 a13 a14 a15) := gossip_Ring_Hear_v4.les k

set_option maxRecDepth 100000 in
theorem gossip_Ring_Hear_v5.les (k : Nat) : (∀ a0 a1 a2 a3 a4 a5 a6 a7 a8 a9 a10 a11 a12 a13 a14 a15, Le (gossip_Ring_Hear_v5.f k a0 a1 a2 a3 a4 a5 a6 a7 a8 a9 a10 a11 a12 a13 a14 a15) (gossip_Ring_Hear_v5.f (k + 1) a0 a1 a2 a3 a4 a5 a6 a7 a8 a9 a10 a11 a12 a13 a14 a15)) := by
  induction k with
  | zero => exact fun _ _ _ _ _ _ _ _ _ _ _ _ _ _ _ _ => Le.none _
  | succ k ih =>
    have h0 := ih
    exact fun _ _ _ _ _ _ _ _ _ _ _ _ _ _ _ _ => Le.bind (x := gossip_Ring_Auditor_v4.f k _ _ _ _ _ _ _ _ _ _ _ _ _ _ _ _) (y := gossip_Ring_Auditor_v4.f (k + 1) _ _ _ _ _ _ _ _ _ _ _ _ _ _ _ _) (gossip_Ring_Auditor_v4.le ..) fun _ => Le.bind (x := gossip_Ring_Auditor_v5.f k _ _ _ _ _ _ _ _ _ _ _ _ _ _ _ _) (y := gossip_Ring_Auditor_v5.f (k + 1) _ _ _ _ _ _ _ _ _ _ _ _ _ _ _ _) (gossip_Ring_Auditor_v5.le ..) fun _ => Le.bind (x := auditor_Auditor_Points.f k _ _ _ _ _ _ _ _ _) (y := auditor_Auditor_Points.f (k + 1) _ _ _ _ _ _ _ _ _) (auditor_Auditor_Points.le ..) fun _ => Le.bind (x := auditor_Auditor_Points.f k _ _ _ _ _ _ _ _ _) (y := auditor_Auditor_Points.f (k + 1) _ _ _ _ _ _ _ _ _) (auditor_Auditor_Points.le ..) fun _ => Le.bind (x := gossip_Compare.f k _ _) (y := gossip_Compare.f (k + 1) _ _) (gossip_Compare.le ..) fun _ => Le.cond (Le.bind (Le.refl _) fun _ => Le.refl _) (Le.refl _)
set_option maxRecDepth 100000 in
theorem gossip_Ring_Hear_v5.le (k : Nat) : ∀ a0 a1 a2 a3 a4 a5 a6 a7 a8 a9 a10 a11 a12 a13 a14 a15, Le (gossip_Ring_Hear_v5.f k a0 a1 a2 a3 a4 a5 a6 a7 a8 a9 a10 a11 a12 a13 a14 a15) (gossip_Ring_Hear_v5.f (k + 1) a0 a1 a2 a3 a4 a5 a6 a7 a8 a9 a10 a11 a12 a13 a14 a15) := gossip_Ring_Hear_v5.les k

set_option maxRecDepth 100000 in
theorem gossip_Ring_Hear_v6.les (k : Nat) : (∀ a0 a1 a2 a3 a4 a5 a6 a7 a8 a9 a10 a11 a12 a13 a14 a15, Le (gossip_Ring_Hear_v6.f k a0 a1 a2 a3 a4 a5 a6 a7 a8 a9 a10 a11 a12 a13 a14 a15) (gossip_Ring_Hear_v6.f (k + 1) a0 a1 a2 a3 a4 a5 a6 a7 a8 a9 a10 a11 a12 a13 a14 a15)) := by
  induction k with
  | zero => exact fun _ _ _ _ _ _ _ _ _ _ _ _ _ _ _ _ => Le.none _
  | succ k ih =>
    have h0 := ih
    exact fun _ _ _ _ _ _ _ _ _ _ _ _ _ _ _ _ => Le.bind (x := gossip_Ring_Auditor_v4.f k _ _ _ _ _ _ _ _ _ _ _ _ _ _ _ _) (y := gossip_Ring_Auditor_v4.f (k + 1) _ _ _ _ _ _ _ _ _ _ _ _ _ _ _ _) (gossip_Ring_Auditor_v4.le ..) fun _ => Le.bind (x := gossip_Ring_Auditor_v4.f k _ _ _ _ _ _ _ _ _ _ _ _ _ _ _ _) (y := gossip_Ring_Auditor_v4.f (k + 1) _ _ _ _ _ _ _ _ _ _ _ _ _ _ _ _) (gossip_Ring_Auditor_v4.le ..) fun _ => Le.bind (x := auditor_Auditor_Points.f k _ _ _ _ _ _ _ _ _) (y := auditor_Auditor_Points.f (k + 1) _ _ _ _ _ _ _ _ _) (auditor_Auditor_Points.le ..) fun _ => Le.bind (x := auditor_Auditor_Points.f k _ _ _ _ _ _ _ _ _) (y := auditor_Auditor_Points.f (k + 1) _ _ _ _ _ _ _ _ _) (auditor_Auditor_Points.le ..) fun _ => Le.bind (x := gossip_Compare.f k _ _) (y := gossip_Compare.f (k + 1) _ _) (gossip_Compare.le ..) fun _ => Le.cond (Le.bind (Le.refl _) fun _ => Le.refl _) (Le.refl _)
set_option maxRecDepth 100000 in
theorem gossip_Ring_Hear_v6.le (k : Nat) : ∀ a0 a1 a2 a3 a4 a5 a6 a7 a8 a9 a10 a11 a12 a13 a14 a15, Le (gossip_Ring_Hear_v6.f k a0 a1 a2 a3 a4 a5 a6 a7 a8 a9 a10 a11 a12 a13 a14 a15) (gossip_Ring_Hear_v6.f (k + 1) a0 a1 a2 a3 a4 a5 a6 a7 a8 a9 a10 a11 a12 a13 a14 a15) := gossip_Ring_Hear_v6.les k

set_option maxRecDepth 100000 in
theorem gossip_Ring_Hear_v7.les (k : Nat) : (∀ a0 a1 a2 a3 a4 a5 a6 a7 a8 a9 a10 a11 a12 a13 a14 a15, Le (gossip_Ring_Hear_v7.f k a0 a1 a2 a3 a4 a5 a6 a7 a8 a9 a10 a11 a12 a13 a14 a15) (gossip_Ring_Hear_v7.f (k + 1) a0 a1 a2 a3 a4 a5 a6 a7 a8 a9 a10 a11 a12 a13 a14 a15)) := by
  induction k with
  | zero => exact fun _ _ _ _ _ _ _ _ _ _ _ _ _ _ _ _ => Le.none _
  | succ k ih =>
    have h0 := ih
    exact fun _ _ _ _ _ _ _ _ _ _ _ _ _ _ _ _ => Le.bind (x := gossip_Ring_Auditor_v4.f k _ _ _ _ _ _ _ _ _ _ _ _ _ _ _ _) (y := gossip_Ring_Auditor_v4.f (k + 1) _ _ _ _ _ _ _ _ _ _ _ _ _ _ _ _) (gossip_Ring_Auditor_v4.le ..) fun _ => Le.bind (x := gossip_Ring_Auditor_v3.f k _ _ _ _ _ _ _ _ _ _ _ _ _ _ _ _) (y := gossip_Ring_Auditor_v3.f (k + 1) _ _ _ _ _ _ _ _ _ _ _ _ _ _ _ _) (gossip_Ring_Auditor_v3.le ..) fun _ => Le.bind (x := auditor_Auditor_Points.f k _ _ _ _ _ _ _ _ _) (y := auditor_Auditor_Points.f (k + 1) _ _ _ _ _ _ _ _ _) (auditor_Auditor_Points.le ..) fun _ => Le.bind (x := auditor_Auditor_Points.f k _ _ _ _ _ _ _ _ _) (y := auditor_Auditor_Points.f (k + 1) _ _ _ _ _ _ _ _ _) (auditor_Auditor_Points.le ..) fun _ => Le.bind (x := gossip_Compare.f k _ _) (y := gossip_Compare.f (k + 1) _ _) (gossip_Compare.le ..) fun _ => Le.cond (Le.bind (Le.refl _) fun _ => Le.refl _) (Le.refl _)
set_option maxRecDepth 100000 in
theorem gossip_Ring_Hear_v7.le (k : Nat) : ∀ a0 a1 a2 a3 a4 a5 a6 a7 a8 a9 a10 a11 a12 a13 a14 a15, Le (gossip_Ring_Hear_v7.f k a0 a1 a2 a3 a4 a5 a6 a7 a8 a9 a10 a11 a12 a13 a14 a15) (gossip_Ring_Hear_v7.f (k + 1) a0 a1 a2 a3 a4 a5 a6 a7 a8 a9 a10 a11 a12 a13 a14 a15) := gossip_Ring_Hear_v7.les k

set_option maxRecDepth 100000 in
theorem gossip_Ring_Hear_v8.les (k : Nat) : (∀ a0 a1 a2 a3 a4 a5 a6 a7 a8 a9 a10 a11 a12 a13 a14 a15, Le (gossip_Ring_Hear_v8.f k a0 a1 a2 a3 a4 a5 a6 a7 a8 a9 a10 a11 a12 a13 a14 a15) (gossip_Ring_Hear_v8.f (k + 1) a0 a1 a2 a3 a4 a5 a6 a7 a8 a9 a10 a11 a12 a13 a14 a15)) := by
  induction k with
  | zero => exact fun _ _ _ _ _ _ _ _ _ _ _ _ _ _ _ _ => Le.none _
  | succ k ih =>
    have h0 := ih
    exact fun _ _ _ _ _ _ _ _ _ _ _ _ _ _ _ _ => Le.bind (x := gossip_Ring_Auditor_v3.f k _ _ _ _ _ _ _ _ _ _ _ _ _ _ _ _) (y := gossip_Ring_Auditor_v3.f (k + 1) _ _ _ _ _ _ _ _ _ _ _ _ _ _ _ _) (gossip_Ring_Auditor_v3.le ..) fun _ => Le.bind (x := gossip_Ring_Auditor_v5.f k _ _ _ _ _ _ _ _ _ _ _ _ _ _ _ _) (y := gossip_Ring_Auditor_v5.f (k + 1) _ _ _ _ _ _ _ _ _ _ _ _ _ _ _ _) (gossip_Ring_Auditor_v5.le ..) fun _ => Le.bind (x := auditor_Auditor_Points.f k _ _ _ _ _ _ _ _ _) (y := auditor_Auditor_Points.f (k + 1) _ _ _ _ _ _ _ _ _) (auditor_Auditor_Points.le ..) fun _ => Le.bind (x := auditor_Auditor_Points.f k _ _ _ _ _ _ _ _ _) (y := auditor_Auditor_Points.f (k + 1) _ _ _ _ _ _ _ _ _) (auditor_Auditor_Points.le ..) fun _ => Le.bind (x := gossip_Compare.f k _ _) (y := gossip_Compare.f (k + 1) _ _) (gossip_Compare.le ..) fun _ => Le.cond (Le.bind (Le.refl _) fun _ => Le.refl _) (Le.refl _)
set_option maxRecDepth 100000 in
theorem gossip_Ring_Hear_v8.le (k : Nat) : ∀ a0 a1 a2 a3 a4 a5 a6 a7 a8 a9 a10 a11 a12 a13 a14 a15, Le (gossip_Ring_Hear_v8.f k a0 a1 a2 a3 a4 a5 a6 a7 a8 a9 a10 a11 a12 a13 a14 a15) (gossip_Ring_Hear_v8.f (k + 1) a0 a1 a2 a3 a4 a5 a6 a7 a8 a9 a10 a11 a12 a13 a14 a15) := gossip_Ring_Hear_v8.les k

set_option maxRecDepth 100000 in
theorem gossip_Ring_Hear_v9.les (k : Nat) : (∀ a0 a1 a2 a3 a4 a5 a6 a7 a8 a9 a10 a11 a12 a13 a14 a15, Le (gossip_Ring_Hear_v9.f k a0 a1 a2 a3 a4 a5 a6 a7 a8 a9 a10 a11 a12 a13 a14 a15) (gossip_Ring_Hear_v9.f (k + 1) a0 a1 a2 a3 a4 a5 a6 a7 a8 a9 a10 a11 a12 a13 a14 a15)) := by
  induction k with
  | zero => exact fun _ _ _ _ _ _ _ _ _ _ _ _ _ _ _ _ => Le.none _
  | succ k ih =>
    have h0 := ih
    exact fun _ _ _ _ _ _ _ _ _ _ _ _ _ _ _ _ => Le.bind (x := gossip_Ring_Auditor_v3.f k _ _ _ _ _ _ _ _ _ _ _ _ _ _ _ _) (y := gossip_Ring_Auditor_v3.f (k + 1) _ _ _ _ _ _ _ _ _ _ _ _ _ _ _ _) (gossip_Ring_Auditor_v3.le ..) fun _ => Le.bind (x := gossip_Ring_Auditor_v4.f k _ _ _ _ _ _ _ _ _ _ _ _ _ _ _ _) (y := gossip_Ring_Auditor_v4.f (k + 1) _ _ _ _ _ _ _ _ _ _ _ _ _ _ _ _) (gossip_Ring_Auditor_v4.le ..) fun _ => Le.bind (x := auditor_Auditor_Points.f k _ _ _ _ _ _ _ _ _) (y := auditor_Auditor_Points.f (k + 1) _ _ _ _ _ _ _ _ _) (auditor_Auditor_Points.le ..) fun _ => Le.bind (x := auditor_Auditor_Points.f k _ _ _ _ _ _ _ _ _) (y := auditor_Auditor_Points.f (k + 1) _ _ _ _ _ _ _ _ _) (auditor_Auditor_Points.le ..) fun _ => Le.bind (x := gossip_Compare.f k _ _) (y := gossip_Compare.f (k + 1) _ _) (gossip_Compare.le ..) fun _ => Le.cond (Le.bind (Le.refl _) fun _ => Le.refl _) (Le.refl _)
set_option maxRecDepth 100000 in
theorem gossip_Ring_Hear_v9.le (k : Nat) : ∀ a0 a1 a2 a3 a4 a5 a6 a7 a8 a9 a10 a11 a12 a13 a14 a15, Le (gossip_Ring_Hear_v9.f k a0 a1 a2 a3 a4 a5 a6 a7 a8 a9 a10 a11 a12 a13 a14 a15) (gossip_Ring_Hear_v9.f (k + 1) a0 a1 a2 a3 a4 a5 a6 a7 a8 a9 a10 a11 a12 a13 a14 a15) := gossip_Ring_Hear_v9.les k

set_option maxRecDepth 100000 in
theorem gossip_Ring_Tell_v3.les (k : Nat) : (∀ a0 a1 a2 a3 a4 a5 a6 a7 a8 a9 a10 a11 a12 a13 a14 a15 a16, Le (gossip_Ring_Tell_v3.f k a0 a1 a2 a3 a4 a5 a6 a7 a8 a9 a10 a11 a12 a13 a14 a15 a16) (gossip_Ring_Tell_v3.f (k + 1) a0 a1 a2 a3 a4 a5 a6 a7 a8 a9 a10 a11 a12 a13 a14 a15 a16)) := by
  induction k with
  | zero => exact fun _ _ _ _ _ _ _ _ _ _ _ _ _ _ _ _ _ => Le.none _
  | succ k ih =>
    have h0 := ih
    exact fun _ _ _ _ _ _ _ _ _ _ _ _ _ _ _ _ _ => Le.bind (x := gossip_Ring_Auditor_v3.f k _ _ _ _ _ _ _ _ _ _ _ _ _ _ _ _) (y := gossip_Ring_Auditor_v3.f (k + 1) _ _ _ _ _ _ _ _ _ _ _ _ _ _ _ _) (gossip_Ring_Auditor_v3.le ..) fun _ => Le.bind (x := auditor_Auditor_Meet.f k _ _ _ _ _ _ _ _ _ _) (y := auditor_Auditor_Meet.f (k + 1) _ _ _ _ _ _ _ _ _ _) (auditor_Auditor_Meet.le ..) fun _ => Le.refl _
set_option maxRecDepth 100000 in
theorem gossip_Ring_Tell_v3.le (k : Nat) : ∀ a0 a1 a2 a3 a4 a5 a6 a7 a8 a9 a10 a11 a12 a13 a14 a15 a16, Le (gossip_Ring_Tell_v3.f k a0 a1 a2 a3 a4 a5 a6 a7 a8 a9 a10 a11 a12 a13 a14 a15 a16) (gossip_Ring_Tell_v3.f (k + 1) a0 a1 a2 a3 a4 a5 a6 a7 a8 a9 a10 a11 a12 a13 a14 a15 a16) := gossip_Ring_Tell_v3.les k

set_option maxRecDepth 100000 in
theorem gossip_Ring_Tell_v4.les (k : Nat) : (∀ a0 a1 a2 a3 a4 a5 a6 a7 a8 a9 a10 a11 a12 a13 a14 a15 a16, Le (gossip_Ring_Tell_v4.f k a0 a1 a2 a3 a4 a5 a6 a7 a8 a9 a10 a11 a12 a13 a14 a15 a16) (gossip_Ring_Tell_v4.f (k + 1) a0 a1 a2 a3 a4 a5 a6 a7 a8 a9 a10 a11 a12 a13 a14 a15 a16)) := by
  induction k with
  | zero => exact fun _ _ _ _ _ _ _ _ _ _ _ _ _ _ _ _ _ => Le.none _
  | succ k ih =>
    have h0 := ih
    exact fun _ _ _ _ _ _ _ _ _ _ _ _ _ _ _ _ _ => Le.bind (x := gossip_Ring_Auditor_v4.f k _ _ _ _ _ _ _ _ _ _ _ _ _ _ _ _) (y := gossip_Ring_Auditor_v4.f (k + 1) _ _ _ _ _ _ _ _ _ _ _ _ _ _ _ _) (gossip_Ring_Auditor_v4.le ..) fun _ => Le.bind (x := auditor_Auditor_Meet.f k _ _ _ _ _ _ _ _ _ _) (y := auditor_Auditor_Meet.f (k + 1) _ _ _ _ _ _ _ _ _ _) (auditor_Auditor_Meet.le ..) fun _ => Le.refl _
set_option maxRecDepth 100000 in
theorem gossip_Ring_Tell_v4.le (k : Nat) : ∀ a0 a1 a2 a3 a4 a5 a6 a7 a8 a9 a10 a11 a12 a13 a14 a15 a16, Le (gossip_Ring_Tell_v4.f k a0 a1 a2 a3 a4 a5 a6 a7 a8 a9 a10 a11 a12 a13 a14 a15 a16) (gossip_Ring_Tell_v4.f (k + 1) a0 a1 a2 a3 a4 a5 a6 a7 a8 a9 a10 a11 a12 a13 a14 a15 a16) := gossip_Ring_Tell_v4.les k

set_option maxRecDepth 100000 in
theorem gossip_Ring_Tell_v5.les (k : Nat) : (∀ a0 a1 a2 a3 a4 a5 a6 a7 a8 a9 a10 a11 a12 a13 a14 a15 a16, Le (gossip_Ring_Tell_v5.f k a0 a1 a2 a3 a4 a5 a6 a7 a8 a9 a10 a11 a12 a13 a14 a15 a16) (gossip_Ring_Tell_v5.f (k + 1) a0 a1 a2 a3 a4 a5 a6 a7 a8 a9 a10 a11 a12 a13 a14 a15 a16)) := by
  induction k with
  | zero => exact fun _ _ _ _ _ _ _ _ _ _ _ _ _ _ _ _ _ => Le.none _
  | succ k ih =>
    have h0 := ih
    exact fun _ _ _ _ _ _ _ _ _ _ _ _ _ _ _ _ _ => Le.bind (x := gossip_Ring_Auditor_v5.f k _ _ _ _ _ _ _ _ _ _ _ _ _ _ _ _) (y := gossip_Ring_Auditor_v5.f (k + 1) _ _ _ _ _ _ _ _ _ _ _ _ _ _ _ _) (gossip_Ring_Auditor_v5.le ..) fun _ => Le.bind (x := auditor_Auditor_Meet.f k _ _ _ _ _ _ _ _ _ _) (y := auditor_Auditor_Meet.f (k + 1) _ _ _ _ _ _ _ _ _ _) (auditor_Auditor_Meet.le ..) fun _ => Le.refl _
set_option maxRecDepth 100000 in
theorem gossip_Ring_Tell_v5.le (k : Nat) : ∀ a0 a1 a2 a3 a4 a5 a6 a7 a8 a9 a10 a11 a12 a13 a14 a15 a16, Le (gossip_Ring_Tell_v5.f k a0 a1 a2 a3 a4 a5 a6 a7 a8 a9 a10 a11 a12 a13 a14 a15 a16) (gossip_Ring_Tell_v5.f (k + 1) a0 a1 a2 a3 a4 a5 a6 a7 a8 a9 a10 a11 a12 a13 a14 a15 a16) := gossip_Ring_Tell_v5.les k

set_option maxRecDepth 100000 in
theorem gossip_Ring_Tell_v6.les (k : Nat) : (∀ a0 a1 a2 a3 a4 a5 a6 a7 a8 a9 a10 a11 a12 a13 a14 a15 a16 a17, Le (gossip_Ring_Tell_v6.f k a0 a1 a2 a3 a4 a5 a6 a7 a8 a9 a10 a11 a12 a13 a14 a15 a16 a17) (gossip_Ring_Tell_v6.f (k + 1) a0 a1 a2 a3 a4 a5 a6 a7 a8 a9 a10 a11 a12 a13 a14 a15 a16 a17)) := by
  induction k with
  | zero => exact fun _ _ _ _ _ _ _ _ _ _ _ _ _ _ _ _ _ _ => Le.none _
  | succ k ih =>
    have h0 := ih
    exact fun _ _ _ _ _ _ _ _ _ _ _ _ _ _ _ _ _ _ => Le.bind (x := gossip_Ring_Auditor_v6.f k _ _ _ _ _ _ _ _ _ _ _ _ _ _ _ _ _) (y := gossip_Ring_Auditor_v6.f (k + 1) _ _ _ _ _ _ _ _ _ _ _ _ _ _ _ _ _) (gossip_Ring_Auditor_v6.le ..) fun _ => Le.refl _
set_option maxRecDepth 100000 in
theorem gossip_Ring_Tell_v6.le (k : Nat) : ∀ a0 a1 a2 a3 a4 a5 a6 a7 a8 a9 a10 a11 a12 a13 a14 a15 a16 a17, Le (gossip_Ring_Tell_v6.f k a0 a1 a2 a3 a4 a5 a6 a7 a8 a9 a10 a11 a12 a13 a14 a15 a16 a17) (gossip_Ring_Tell_v6.f (k + 1) a0 a1 a2 a3 a4 a5 a6 a7 a8 a9 a10 a11 a12 a13 a14 a15 a16 a17) := gossip_Ring_Tell_v6.les k

set_option maxRecDepth 100000 in
theorem pledge_Leaf.les (k : Nat) : (∀ a0 a1 a2 a3 a4 a5 a6, Le (pledge_Leaf.f k a0 a1 a2 a3 a4 a5 a6) (pledge_Leaf.f (k + 1) a0 a1 a2 a3 a4 a5 a6)) := by
  induction k with
  | zero => exact fun _ _ _ _ _ _ _ => Le.none _
  | succ k ih =>
    have h0 := ih
    exact fun _ _ _ _ _ _ _ => Le.bind (Le.refl _) fun _ => Le.bind (mill_Mill_Sum.le ..) fun _ => Le.refl _
set_option maxRecDepth 100000 in
theorem pledge_Leaf.le (k : Nat) : ∀ a0 a1 a2 a3 a4 a5 a6, Le (pledge_Leaf.f k a0 a1 a2 a3 a4 a5 a6) (pledge_Leaf.f (k + 1) a0 a1 a2 a3 a4 a5 a6) := pledge_Leaf.les k

set_option maxRecDepth 100000 in
theorem chartularylaw07_Leaves.les (k : Nat) : (∀ a0 a1 a2 a3 a4 a5 a6, Le (chartularylaw07_Leaves.f k a0 a1 a2 a3 a4 a5 a6) (chartularylaw07_Leaves.f (k + 1) a0 a1 a2 a3 a4 a5 a6)) ∧ (∀ a0 a1 a2 a3 a4 a5 a6 a7 a8, Le (chartularylaw07_Leaves.l0 k a0 a1 a2 a3 a4 a5 a6 a7 a8) (chartularylaw07_Leaves.l0 (k + 1) a0 a1 a2 a3 a4 a5 a6 a7 a8)) := by
  induction k with
  | zero => exact ⟨fun _ _ _ _ _ _ _ => Le.none _, fun _ _ _ _ _ _ _ _ _ => Le.none _⟩
  | succ k ih =>
    obtain ⟨h0, h1⟩ := ih
    exact ⟨fun _ _ _ _ _ _ _ => h1 .., fun _ _ _ _ _ _ _ _ _ => Le.cond (Le.cond (Le.bind (Le.refl _) fun _ => Le.cond (Le.bind (Le.refl _) fun _ => Le.bind (pledge_Leaf.le ..) fun _ => Le.bind (Le.refl _) fun _ => h1 ..) (Le.bind (pledge_Leaf.le ..) fun _ => Le.bind (Le.refl _) fun _ => h1 ..)) (Le.refl _)) (Le.refl _)⟩
set_option maxRecDepth 100000 in
theorem chartularylaw07_Leaves.le (k : Nat) : ∀ a0 a1 a2 a3 a4 a5 a6, Le (chartularylaw07_Leaves.f k a0 a1 a2 a3 a4 a5 a6) (chartularylaw07_Leaves.f (k + 1) a0 a1 a2 a3 a4 a5 a6) := (chartularylaw07_Leaves.les k).1

set_option maxRecDepth 100000 in
theorem merkle_Root.les (k : Nat) : (∀ a0 a1 a2 a3 a4 a5 a6, Le (merkle_Root.f k a0 a1 a2 a3 a4 a5 a6) (merkle_Root.f (k + 1) a0 a1 a2 a3 a4 a5 a6)) := by
  induction k with
  | zero => exact fun _ _ _ _ _ _ _ => Le.none _
  | succ k ih =>
    have h0 := ih
    exact fun _ _ _ _ _ _ _ => Le.cond (Le.bind (pledge_None.le ..) fun _ => Le.refl _) (Le.cond (Le.bind (Le.refl _) fun _ => Le.refl _) (Le.bind (merkle_split.le ..) fun _ => Le.bind (Le.refl _) fun _ => Le.bind (h0 ..) fun _ => Le.bind (Le.refl _) fun _ => Le.bind (h0 ..) fun _ => Le.bind (pledge_Node.le ..) fun _ => Le.refl _))
set_option maxRecDepth 100000 in
theorem merkle_Root.le (k : Nat) : ∀ a0 a1 a2 a3 a4 a5 a6, Le (merkle_Root.f k a0 a1 a2 a3 a4 a5 a6) (merkle_Root.f (k + 1) a0 a1 a2 a3 a4 a5 a6) := merkle_Root.les k

set_option maxRecDepth 100000 in
theorem merkle_grow.les (k : Nat) : (∀ a0 a1 a2 a3 a4 a5 a6 a7 a8, Le (merkle_grow.f k a0 a1 a2 a3 a4 a5 a6 a7 a8) (merkle_grow.f (k + 1) a0 a1 a2 a3 a4 a5 a6 a7 a8)) := by
  induction k with
  | zero => exact fun _ _ _ _ _ _ _ _ _ => Le.none _
  | succ k ih =>
    have h0 := ih
    exact fun _ _ _ _ _ _ _ _ _ => Le.cond (Le.cond (Le.refl _) (Le.bind (merkle_Root.le ..) fun _ => Le.refl _)) (Le.bind (merkle_split.le ..) fun _ => Le.cond (Le.bind (Le.refl _) fun _ => Le.bind (h0 ..) fun _ => Le.bind (Le.refl _) fun _ => Le.bind (merkle_Root.le ..) fun _ => Le.bind (Le.refl _) fun _ => Le.refl _) (Le.bind (Le.refl _) fun _ => Le.bind (h0 ..) fun _ => Le.bind (Le.refl _) fun _ => Le.bind (merkle_Root.le ..) fun _ => Le.bind (Le.refl _) fun _ => Le.refl _))
set_option maxRecDepth 100000 in
theorem merkle_grow.le (k : Nat) : ∀ a0 a1 a2 a3 a4 a5 a6 a7 a8, Le (merkle_grow.f k a0 a1 a2 a3 a4 a5 a6 a7 a8) (merkle_grow.f (k + 1) a0 a1 a2 a3 a4 a5 a6 a7 a8) := merkle_grow.les k

set_option maxRecDepth 100000 in
theorem merkle_Growth.les (k : Nat) : (∀ a0 a1 a2 a3 a4 a5 a6 a7, Le (merkle_Growth.f k a0 a1 a2 a3 a4 a5 a6 a7) (merkle_Growth.f (k + 1) a0 a1 a2 a3 a4 a5 a6 a7)) ∧ (∀ a0 a1 a2 a3 a4 a5 a6 a7, Le (merkle_Growth.j0 k a0 a1 a2 a3 a4 a5 a6 a7) (merkle_Growth.j0 (k + 1) a0 a1 a2 a3 a4 a5 a6 a7)) := by
  induction k with
  | zero => exact ⟨fun _ _ _ _ _ _ _ _ => Le.none _, fun _ _ _ _ _ _ _ _ => Le.none _⟩
  | succ k ih =>
    obtain ⟨h0, h1⟩ := ih
    exact ⟨fun _ _ _ _ _ _ _ _ => Le.cond (Le.refl _) (Le.cond (Le.refl _) (h1 ..)), fun _ _ _ _ _ _ _ _ => Le.cond (Le.refl _) (Le.bind (merkle_grow.le ..) fun _ => Le.refl _)⟩
set_option maxRecDepth 100000 in
theorem merkle_Growth.le (k : Nat) : ∀ a0 a1 a2 a3 a4 a5 a6 a7, Le (merkle_Growth.f k a0 a1 a2 a3 a4 a5 a6 a7) (merkle_Growth.f (k + 1) a0 a1 a2 a3 a4 a5 a6 a7) := (merkle_Growth.les k).1

set_option maxRecDepth 100000 in
theorem chartularylaw28_GossipAgrees.les (k : Nat) : (∀ a0 a1 a2, Le (chartularylaw28_GossipAgrees.f k a0 a1 a2) (chartularylaw28_GossipAgrees.f (k + 1) a0 a1 a2)) ∧ (∀ a0 a1 a2 a3 a4 a5 a6 a7 a8 a9 a10 a11 a12 a13 a14 a15 a16 a17 a18 a19, Le (chartularylaw28_GossipAgrees.l0 k a0 a1 a2 a3 a4 a5 a6 a7 a8 a9 a10 a11 a12 a13 a14 a15 a16 a17 a18 a19) (chartularylaw28_GossipAgrees.l0 (k + 1) a0 a1 a2 a3 a4 a5 a6 a7 a8 a9 a10 a11 a12 a13 a14 a15 a16 a17 a18 a19)) ∧ (∀ a0 a1 a2 a3 a4 a5 a6 a7 a8 a9 a10 a11 a12 a13 a14 a15, Le (chartularylaw28_GossipAgrees.l1 k a0 a1 a2 a3 a4 a5 a6 a7 a8 a9 a10 a11 a12 a13 a14 a15) (chartularylaw28_GossipAgrees.l1 (k + 1) a0 a1 a2 a3 a4 a5 a6 a7 a8 a9 a10 a11 a12 a13 a14 a15)) ∧ (∀ a0 a1 a2 a3 a4 a5 a6 a7 a8 a9 a10 a11 a12 a13 a14 a15, Le (chartularylaw28_GossipAgrees.l2 k a0 a1 a2 a3 a4 a5 a6 a7 a8 a9 a10 a11 a12 a13 a14 a15) (chartularylaw28_GossipAgrees.l2 (k + 1) a0 a1 a2 a3 a4 a5 a6 a7 a8 a9 a10 a11 a12 a13 a14 a15)) ∧ (∀ a0 a1 a2 a3 a4 a5 a6 a7 a8 a9 a10 a11 a12 a13 a14 a15, Le (chartularylaw28_GossipAgrees.l3 k a0 a1 a2 a3 a4 a5 a6 a7 a8 a9 a10 a11 a12 a13 a14 a15) (chartularylaw28_GossipAgrees.l3 (k + 1) a0 a1 a2 a3 a4 a5 a6 a7 a8 a9 a10 a11 a12 a13 a14 a15)) ∧ (∀ a0 a1 a2 a3 a4 a5 a6 a7 a8 a9 a10 a11 a12 a13 a14 a15, Le (chartularylaw28_GossipAgrees.l4 k a0 a1 a2 a3 a4 a5 a6 a7 a8 a9 a10 a11 a12 a13 a14 a15) (chartularylaw28_GossipAgrees.l4 (k + 1) a0 a1 a2 a3 a4 a5 a6 a7 a8 a9 a10 a11 a12 a13 a14 a15)) ∧ (∀ a0 a1 a2 a3 a4 a5 a6 a7 a8 a9 a10 a11 a12 a13 a14 a15, Le (chartularylaw28_GossipAgrees.l5 k a0 a1 a2 a3 a4 a5 a6 a7 a8 a9 a10 a11 a12 a13 a14 a15) (chartularylaw28_GossipAgrees.l5 (k + 1) a0 a1 a2 a3 a4 a5 a6 a7 a8 a9 a10 a11 a12 a13 a14 a15)) ∧ (∀ a0 a1 a2 a3 a4 a5 a6 a7 a8 a9 a10 a11 a12 a13 a14 a15, Le (chartularylaw28_GossipAgrees.l6 k a0 a1 a2 a3 a4 a5 a6 a7 a8 a9 a10 a11 a12 a13 a14 a15) (chartularylaw28_GossipAgrees.l6 (k + 1) a0 a1 a2 a3 a4 a5 a6 a7 a8 a9 a10 a11 a12 a13 a14 a15)) ∧ (∀ a0 a1 a2 a3 a4 a5 a6 a7 a8 a9 a10 a11 a12 a13 a14 a15, Le (chartularylaw28_GossipAgrees.l7 k a0 a1 a2 a3 a4 a5 a6 a7 a8 a9 a10 a11 a12 a13 a14 a15) (chartularylaw28_GossipAgrees.l7 (k + 1) a0 a1 a2 a3 a4 a5 a6 a7 a8 a9 a10 a11 a12 a13 a14 a15)) ∧ (∀ a0 a1 a2 a3 a4 a5 a6 a7 a8 a9 a10 a11 a12 a13 a14 a15, Le (chartularylaw28_GossipAgrees.l8 k a0 a1 a2 a3 a4 a5 a6 a7 a8 a9 a10 a11 a12 a13 a14 a15) (chartularylaw28_GossipAgrees.l8 (k + 1) a0 a1 a2 a3 a4 a5 a6 a7 a8 a9 a10 a11 a12 a13 a14 a15)) ∧ (∀ a0 a1 a2 a3 a4 a5 a6 a7 a8 a9 a10 a11 a12 a13 a14 a15, Le (chartularylaw28_GossipAgrees.l9 k a0 a1 a2 a3 a4 a5 a6 a7 a8 a9 a10 a11 a12 a13 a14 a15) (chartularylaw28_GossipAgrees.l9 (k + 1) a0 a1 a2 a3 a4 a5 a6 a7 a8 a9 a10 a11 a12 a13 a14 a15)) ∧ (∀ a0 a1 a2 a3 a4 a5 a6 a7 a8 a9 a10 a11 a12 a13 a14 a15, Le (chartularylaw28_GossipAgrees.l10 k a0 a1 a2 a3 a4 a5 a6 a7 a8 a9 a10 a11 a12 a13 a14 a15) (chartularylaw28_GossipAgrees.l10 (k + 1) a0 a1 a2 a3 a4 a5 a6 a7 a8 a9 a10 a11 a12 a13 a14 a15)) := by
  induction k with
  | zero => exact ⟨fun _ _ _ => Le.none _, fun _ _ _ _ _ _ _ _ _ _ _ _ _ _ _ _ _ _ _ _ => Le.none _, fun _ _ _ _ _ _ _ _ _ _ _ _ _ _ _ _ => Le.none _, fun _ _ _ _ _ _ _ _ _ _ _ _ _ _ _ _ => Le.none _, fun _ _ _ _ _ _ _ _ _ _ _ _ _ _ _ _ => Le.none _, fun _ _ _ _ _ _ _ _ _ _ _ _ _ _ _ _ => Le.none _, fun _ _ _ _ _ _ _ _ _ _ _ _ _ _ _ _ => Le.none _, fun _ _ _ _ _ _ _ _ _ _ _ _ _ _ _ _ => Le.none _, fun _ _ _ _ _ _ _ _ _ _ _ _ _ _ _ _ => Le.none _, fun _ _ _ _ _ _ _ _ _ _ _ _ _ _ _ _ => Le.none _, fun _ _ _ _ _ _ _ _ _ _ _ _ _ _ _ _ => Le.none _, fun _ _ _ _ _ _ _ _ _ _ _ _ _ _ _ _ => Le.none _⟩
  | succ k ih =>
    obtain ⟨h0, h1, h2, h3, h4, h5, h6, h7, h8, h9, h10, h11⟩ := ih
    exact ⟨fun _ _ _ => Le.bind (x := mill_New.f k) (y := mill_New.f (k + 1)) (mill_New.le ..) fun _ => Le.bind (x := chartularylaw07_Leaves.f k _ _ _ _ _ _ _) (y := chartularylaw07_Leaves.f (k + 1) _ _ _ _ _ _ _) (chartularylaw07_Leaves.le ..) fun _ => Le.bind (x := gossip_New_v1.f k _ _ _ _ _ _) (y := gossip_New_v1.f (k + 1) _ _ _ _ _ _) (gossip_New_v1.le ..) fun _ => Le.cond (Le.refl _) (h1 ..), fun _ _ _ _ _ _ _ _ _ _ _ _ _ _ _ _ _ _ _ _ => Le.cond (Le.cond (Le.cond (Le.bind (Le.refl _) fun _ => Le.cond (Le.bind (x := gossip_Ring_Auditor_v3.f k _ _ _ _ _ _ _ _ _ _ _ _ _ _ _ _) (y := gossip_Ring_Auditor_v3.f (k + 1) _ _ _ _ _ _ _ _ _ _ _ _ _ _ _ _) (gossip_Ring_Auditor_v3.le ..) fun _ => Le.bind (Le.refl _) fun _ => Le.cond (h1 ..) (Le.cond (h1 ..) (Le.bind (x := auditor_Auditor_Last.f k _ _ _ _ _ _ _ _ _) (y := auditor_Auditor_Last.f (k + 1) _ _ _ _ _ _ _ _ _) (auditor_Auditor_Last.le ..) fun _ => Le.cond (h1 ..) (Le.bind (Le.refl _) fun _ => Le.bind (x := merkle_Growth.f k _ _ _ _ _ _ _ _) (y := merkle_Growth.f (k + 1) _ _ _ _ _ _ _ _) (merkle_Growth.le ..) fun _ => Le.bind (Le.refl _) fun _ => Le.bind (Le.refl _) fun _ => Le.bind (x := merkle_Root.f k _ _ _ _ _ _ _) (y := merkle_Root.f (k + 1) _ _ _ _ _ _ _) (merkle_Root.le ..) fun _ => Le.bind (x := proof_GrowthBytes.f k _) (y := proof_GrowthBytes.f (k + 1) _) (proof_GrowthBytes.le ..) fun _ => Le.cond (Le.bind (x := gossip_Ring_Tell_v3.f k _ _ _ _ _ _ _ _ _ _ _ _ _ _ _ _ _) (y := gossip_Ring_Tell_v3.f (k + 1) _ _ _ _ _ _ _ _ _ _ _ _ _ _ _ _ _) (gossip_Ring_Tell_v3.le ..) fun _ => Le.cond (Le.refl _) (Le.cond (Le.cond (Le.refl _) (h1 ..)) (h1 ..))) (Le.cond (Le.bind (x := gossip_Ring_Tell_v4.f k _ _ _ _ _ _ _ _ _ _ _ _ _ _ _ _ _) (y := gossip_Ring_Tell_v4.f (k + 1) _ _ _ _ _ _ _ _ _ _ _ _ _ _ _ _ _) (gossip_Ring_Tell_v4.le ..) fun _ => Le.cond (Le.refl _) (Le.cond (Le.cond (Le.refl _) (h1 ..)) (h1 ..))) (Le.cond (Le.bind (x := gossip_Ring_Tell_v5.f k _ _ _ _ _ _ _ _ _ _ _ _ _ _ _ _ _) (y := gossip_Ring_Tell_v5.f (k + 1) _ _ _ _ _ _ _ _ _ _ _ _ _ _ _ _ _) (gossip_Ring_Tell_v5.le ..) fun _ => Le.cond (Le.refl _) (Le.cond (Le.cond (Le.refl _) (h1 ..)) (h1 ..))) (Le.bind (x := gossip_Ring_Tell_v6.f k _ _ _ _ _ _ _ _ _ _ _ _ _ _ _ _ _ _) (y := gossip_Ring_Tell_v6.f (k + 1) _ _ _ _ _ _ _ _ _ _ _ _ _ _ _ _ _ _) (gossip_Ring_Tell_v6.le ..) fun _ => Le.cond (Le.refl _) (Le.cond (Le.cond (Le.refl _) (h1 ..)) (h1 ..))))))))) (Le.cond (Le.bind (x := gossip_Ring_Auditor_v4.f k _ _ _ _ _ _ _ _ _ _ _ _ _ _ _ _) (y := gossip_Ring_Auditor_v4.f (k + 1) _ _ _ _ _ _ _ _ _ _ _ _ _ _ _ _) (gossip_Ring_Auditor_v4.le ..) fun _ => Le.bind (Le.refl _) fun _ => Le.cond (h1 ..) (Le.cond (h1 ..) (Le.bind (x := auditor_Auditor_Last.f k _ _ _ _ _ _ _ _ _) (y := auditor_Auditor_Last.f (k + 1) _ _ _ _ _ _ _ _ _) (auditor_Auditor_Last.le ..) fun _ => Le.cond (h1 ..) (Le.bind (Le.refl _) fun _ => Le.bind (x := merkle_Growth.f k _ _ _ _ _ _ _ _) (y := merkle_Growth.f (k + 1) _ _ _ _ _ _ _ _) (merkle_Growth.le ..) fun _ => Le.bind (Le.refl _) fun _ => Le.bind (Le.refl _) fun _ => Le.bind (x := merkle_Root.f k _ _ _ _ _ _ _) (y := merkle_Root.f (k + 1) _ _ _ _ _ _ _) (merkle_Root.le ..) fun _ => Le.bind (x := proof_GrowthBytes.f k _) (y := proof_GrowthBytes.f (k + 1) _) (proof_GrowthBytes.le ..) fun _ => Le.cond (Le.bind (x := gossip_Ring_Tell_v3.f k _ _ _ _ _ _ _ _ _ _ _ _ _ _ _ _ _) (y := gossip_Ring_Tell_v3.f (k + 1) _ _ _ _ _ _ _ _ _ _ _ _ _ _ _ _ _) (gossip_Ring_Tell_v3.le ..) fun _ => Le.cond (Le.refl _) (Le.cond (Le.cond (Le.refl _) (h1 ..)) (h1 ..))) (Le.cond (Le.bind (x := gossip_Ring_Tell_v4.f k _ _ _ _ _ _ _ _ _ _ _ _ _ _ _ _ _) (y := gossip_Ring_Tell_v4.f (k + 1) _ _ _ _ _ _ _ _ _ _ _ _ _ _ _ _ _) (gossip_Ring_Tell_v4.le ..) fun _ => Le.cond (Le.refl _) (Le.cond (Le.cond (Le.refl _) (h1 ..)) (h1 ..))) (Le.cond (Le.bind (x := gossip_Ring_Tell_v5.f k _ _ _ _ _ _ _ _ _ _ _ _ _ _ _ _ _) (y := gossip_Ring_Tell_v5.f (k + 1) _ _ _ _ _ _ _ _ _ _ _ _ _ _ _ _ _) (gossip_Ring_Tell_v5.le ..) fun _ => Le.cond (Le.refl _) (Le.cond (Le.cond (Le.refl _) (h1 ..)) (h1 ..))) (Le.bind (x := gossip_Ring_Tell_v6.f k _ _ _ _ _ _ _ _ _ _ _ _ _ _ _ _ _ _) (y := gossip_Ring_Tell_v6.f (k + 1) _ _ _ _ _ _ _ _ _ _ _ _ _ _ _ _ _ _) (gossip_Ring_Tell_v6.le ..) fun _ => Le.cond (Le.refl _) (Le.cond (Le.cond (Le.refl _) (h1 ..)) (h1 ..))))))))) (Le.cond (Le.bind (x := gossip_Ring_Auditor_v5.f k _ _ _ _ _ _ _ _ _ _ _ _ _ _ _ _) (y := gossip_Ring_Auditor_v5.f (k + 1) _ _ _ _ _ _ _ _ _ _ _ _ _ _ _ _) (gossip_Ring_Auditor_v5.le ..) fun _ => Le.bind (Le.refl _) fun _ => Le.cond (h1 ..) (Le.cond (h1 ..) (Le.bind (x := auditor_Auditor_Last.f k _ _ _ _ _ _ _ _ _) (y := auditor_Auditor_Last.f (k + 1) _ _ _ _ _ _ _ _ _) (auditor_Auditor_Last.le ..) fun _ => Le.cond (h1 ..) (Le.bind (Le.refl _) fun _ => Le.bind (x := merkle_Growth.f k _ _ _ _ _ _ _ _) (y := merkle_Growth.f (k + 1) _ _ _ _ _ _ _ _) (merkle_Growth.le ..) fun _ => Le.bind (Le.refl _) fun _ => Le.bind (Le.refl _) fun _ => Le.bind (x := merkle_Root.f k _ _ _ _ _ _ _) (y := merkle_Root.f (k + 1) _ _ _ _ _ _ _) (merkle_Root.le ..) fun _ => Le.bind (x := proof_GrowthBytes.f k _) (y := proof_GrowthBytes.f (k + 1) _) (proof_GrowthBytes.le ..) fun _ => Le.cond (Le.bind (x := gossip_Ring_Tell_v3.f k _ _ _ _ _ _ _ _ _ _ _ _ _ _ _ _ _) (y := gossip_Ring_Tell_v3.f (k + 1) _ _ _ _ _ _ _ _ _ _ _ _ _ _ _ _ _) (gossip_Ring_Tell_v3.le ..) fun _ => Le.cond (Le.refl _) (Le.cond (Le.cond (Le.refl _) (h1 ..)) (h1 ..))) (Le.cond (Le.bind (x := gossip_Ring_Tell_v4.f k _ _ _ _ _ _ _ _ _ _ _ _ _ _ _ _ _) (y := gossip_Ring_Tell_v4.f (k + 1) _ _ _ _ _ _ _ _ _ _ _ _ _ _ _ _ _) (gossip_Ring_Tell_v4.le ..) fun _ => Le.cond (Le.refl _) (Le.cond (Le.cond (Le.refl _) (h1 ..)) (h1 ..))) (Le.cond (Le.bind (x := gossip_Ring_Tell_v5.f k _ _ _ _ _ _ _ _ _ _ _ _ _ _ _ _ _) (y := gossip_Ring_Tell_v5.f (k + 1) _ _ _ _ _ _ _ _ _ _ _ _ _ _ _ _ _) (gossip_Ring_Tell_v5.le ..) fun _ => Le.cond (Le.refl _) (Le.cond (Le.cond (Le.refl _) (h1 ..)) (h1 ..))) (Le.bind (x := gossip_Ring_Tell_v6.f k _ _ _ _ _ _ _ _ _ _ _ _ _ _ _ _ _ _) (y := gossip_Ring_Tell_v6.f (k + 1) _ _ _ _ _ _ _ _ _ _ _ _ _ _ _ _ _ _) (gossip_Ring_Tell_v6.le ..) fun _ => Le.cond (Le.refl _) (Le.cond (Le.cond (Le.refl _) (h1 ..)) (h1 ..))))))))) (Le.bind (x := gossip_Ring_Auditor_v6.f k _ _ _ _ _ _ _ _ _ _ _ _ _ _ _ _ _) (y := gossip_Ring_Auditor_v6.f (k + 1) _ _ _ _ _ _ _ _ _ _ _ _ _ _ _ _ _) (gossip_Ring_Auditor_v6.le ..) fun _ => Le.bind (Le.refl _) fun _ => h1 ..)))) (h2 ..)) (h2 ..)) (h2 ..), fun _ _ _ _ _ _ _ _ _ _ _ _ _ _ _ _ => Le.bind (x := gossip_Ring_Hear_v2.f k _ _ _ _ _ _ _ _ _ _ _ _ _ _ _ _) (y := gossip_Ring_Hear_v2.f (k + 1) _ _ _ _ _ _ _ _ _ _ _ _ _ _ _ _) (gossip_Ring_Hear_v2.le ..) fun _ => Le.cond (Le.refl _) (h3 ..), fun _ _ _ _ _ _ _ _ _ _ _ _ _ _ _ _ => Le.bind (x := gossip_Ring_Hear_v3.f k _ _ _ _ _ _ _ _ _ _ _ _ _ _ _ _) (y := gossip_Ring_Hear_v3.f (k + 1) _ _ _ _ _ _ _ _ _ _ _ _ _ _ _ _) (gossip_Ring_Hear_v3.le ..) fun _ => Le.cond (Le.refl _) (h4 ..), fun _ _ _ _ _ _ _ _ _ _ _ _ _ _ _ _ => Le.bind (x := gossip_Ring_Hear_v4.f k _ _ _ _ _ _ _ _ _ _ _ _ _ _ _ _) (y := gossip_Ring_Hear_v4.f (k + 1) _ _ _ _ _ _ _ _ _ _ _ _ _ _ _ _) (gossip_Ring_Hear_v4.le ..) fun _ => Le.cond (Le.refl _) (h5 ..), fun _ _ _ _ _ _ _ _ _ _ _ _ _ _ _ _ => Le.bind (x := gossip_Ring_Hear_v5.f k _ _ _ _ _ _ _ _ _ _ _ _ _ _ _ _) (y := gossip_Ring_Hear_v5.f (k + 1) _ _ _ _ _ _ _ _ _ _ _ _ _ _ _ _) (gossip_Ring_Hear_v5.le ..) fun _ => Le.cond (Le.refl _) (h6 ..), fun _ _ _ _ _ _ _ _ _ _ _ _ _ _ _ _ => Le.bind (x := gossip_Ring_Hear_v6.f k _ _ _ _ _ _ _ _ _ _ _ _ _ _ _ _) (y := gossip_Ring_Hear_v6.f (k + 1) _ _ _ _ _ _ _ _ _ _ _ _ _ _ _ _) (gossip_Ring_Hear_v6.le ..) fun _ => Le.cond (Le.refl _) (h7 ..), fun _ _ _ _ _ _ _ _ _ _ _ _ _ _ _ _ => Le.bind (x := gossip_Ring_Hear_v7.f k _ _ _ _ _ _ _ _ _ _ _ _ _ _ _ _) (y := gossip_Ring_Hear_v7.f (k + 1) _ _ _ _ _ _ _ _ _ _ _ _ _ _ _ _) (gossip_Ring_Hear_v7.le ..) fun _ => Le.cond (Le.refl _) (h8 ..), fun _ _ _ _ _ _ _ _ _ _ _ _ _ _ _ _ => Le.bind (x := gossip_Ring_Hear_v8.f k _ _ _ _ _ _ _ _ _ _ _ _ _ _ _ _) (y := gossip_Ring_Hear_v8.f (k + 1) _ _ _ _ _ _ _ _ _ _ _ _ _ _ _ _) (gossip_Ring_Hear_v8.le ..) fun _ => Le.cond (Le.refl _) (h9 ..), fun _ _ _ _ _ _ _ _ _ _ _ _ _ _ _ _ => Le.bind (x := gossip_Ring_Hear_v9.f k _ _ _ _ _ _ _ _ _ _ _ _ _ _ _ _) (y := gossip_Ring_Hear_v9.f (k + 1) _ _ _ _ _ _ _ _ _ _ _ _ _ _ _ _) (gossip_Ring_Hear_v9.le ..) fun _ => Le.cond (Le.refl _) (h10 ..), fun _ _ _ _ _ _ _ _ _ _ _ _ _ _ _ _ => Le.bind (x := gossip_Ring_Hear_v10.f k _ _ _ _ _ _ _ _ _ _ _ _ _ _ _ _) (y := gossip_Ring_Hear_v10.f (k + 1) _ _ _ _ _ _ _ _ _ _ _ _ _ _ _ _) (gossip_Ring_Hear_v10.le ..) fun _ => Le.cond (Le.refl _) (h11 ..), fun _ _ _ _ _ _ _ _ _ _ _ _ _ _ _ _ => Le.bind (x := gossip_Ring_Agree_v2.f k _ _ _ _ _ _ _ _ _ _ _ _ _ _ _ _) (y := gossip_Ring_Agree_v2.f (k + 1) _ _ _ _ _ _ _ _ _ _ _ _ _ _ _ _) (gossip_Ring_Agree_v2.le ..) fun _ => Le.cond (Le.bind (x := gossip_Ring_Forks_v2.f k _ _ _ _ _ _ _ _ _ _ _ _ _ _ _ _) (y := gossip_Ring_Forks_v2.f (k + 1) _ _ _ _ _ _ _ _ _ _ _ _ _ _ _ _) (gossip_Ring_Forks_v2.le ..) fun _ => Le.cond (Le.bind (x := chartularylaw28_awake.f k) (y := chartularylaw28_awake.f (k + 1)) (chartularylaw28_awake.le ..) fun _ => Le.refl _) (Le.refl _)) (Le.refl _)⟩
set_option maxRecDepth 100000 in
theorem chartularylaw28_GossipAgrees.le (k : Nat) : ∀ a0 a1 a2, Le (chartularylaw28_GossipAgrees.f k a0 a1 a2) (chartularylaw28_GossipAgrees.f (k + 1) a0 a1 a2) := (chartularylaw28_GossipAgrees.les k).1

end Go.Proofs.Ytfbpkpnnglhbcaa.E
