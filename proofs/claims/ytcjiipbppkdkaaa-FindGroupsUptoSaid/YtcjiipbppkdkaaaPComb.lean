/- Plain laws: what a function of rounds comes to: combinators. -/
import Derived.Test.YtcjiipbppkdkaaaPBase
namespace Go.Proofs.Ytcjiipbppkdkaaa.Pure
open Go Go.Proofs.Ytcjiipbppkdkaaa.E Go.Proofs.Ytcjiipbppkdkaaa.Eng
set_option linter.unusedVariables false
set_option linter.unusedSimpArgs false
def TP {α : Type} (f : Nat → Option α) (P : α → Prop) : Prop := ∃ v, Runs f v ∧ P v
section
variable {α β : Type}
theorem TP.bind {f : Nat → Option α} {g : α → Nat → Option β} {P : α → Prop} {Q : β → Prop} (h : TP f P) (h' : ∀ v, P v → TP (g v) Q) : TP (fun k => (f k).bind fun x => g x k) Q := by
 obtain ⟨v, hv, hp⟩ := h
 obtain ⟨w, hw, hq⟩ := h' v hp
 exact ⟨w, Runs.bind hv hw, hq⟩
theorem TP.some {v : α} {P : α → Prop} (h : P v) : TP (fun _ => Option.some v) P := ⟨v, Runs.some, h⟩
theorem TP.opt {o : Option α} {g : α → Nat → Option β} {Q : β → Prop} (h : ∃ v, o = Option.some v) (h' : ∀ v, TP (g v) Q) : TP (fun k => o.bind fun x => g x k) Q := by
 obtain ⟨v, rfl⟩ := h
 exact h' v
theorem TP.ck {b : Bool} {g : Unit → Nat → Option β} {Q : β → Prop} (h : b = true) (h' : TP (g ()) Q) : TP (fun k => (Eng.ck b).bind fun x => g x k) Q := by subst h; exact h'
theorem TP.step {f body : Nat → Option α} {Q : α → Prop} (h : ∀ k, f (k + 1) = body k) (h' : TP body Q) : TP f Q := by
 obtain ⟨v, hv, hq⟩ := h'
 exact ⟨v, Runs.step h hv, hq⟩
theorem TP.cond {b : Bool} {f g : Nat → Option α} {Q : α → Prop} (h1 : b = true → TP f Q) (h2 : b = false → TP g Q) : TP (fun k => bif b then f k else g k) Q := by
 cases b with
 | true => exact h1 rfl
 | false => exact h2 rfl
theorem TP.dec {p : Prop} [Decidable p] {f g : Nat → Option α} {Q : α → Prop} (h1 : p → TP f Q) (h2 : ¬ p → TP g Q) : TP (fun k => bif decide p then f k else g k) Q :=
 TP.cond (fun h => h1 (of_decide_eq_true h)) (fun h => h2 (of_decide_eq_false h))
theorem TP.bindR {f : Nat → Option α} {g : α → Nat → Option β} {v : α} {Q : β → Prop} (h : Runs f v) (h' : TP (g v) Q) : TP (fun k => (f k).bind fun x => g x k) Q := by
 obtain ⟨w, hw, hq⟩ := h'
 exact ⟨w, Runs.bind h hw, hq⟩
theorem TP.bindM {γ : Type} {f : Nat → Option (α × γ)} {g : α × γ → Nat → Option β} {v : α} {Q : β → Prop} (h : TP f (fun x => x.1 = v)) (h' : ∀ s, TP (g (v, s)) Q) : TP (fun k => (f k).bind fun x => g x k) Q :=
 TP.bind h fun x hx => by
  obtain ⟨a, s⟩ := x
  have : a = v := hx
  subst this
  exact h' s
theorem TP.optE {o : Option α} {g : α → Nat → Option β} {v : α} {Q : β → Prop} (h : o = Option.some v) (h' : TP (g v) Q) : TP (fun k => o.bind fun x => g x k) Q := by subst h; exact h'
theorem TP.yes {b : Bool} {f g : Nat → Option α} {Q : α → Prop} (h : b = true) (h1 : TP f Q) : TP (fun k => bif b then f k else g k) Q := by subst h; exact h1
theorem TP.no {b : Bool} {f g : Nat → Option α} {Q : α → Prop} (h : b = false) (h1 : TP g Q) : TP (fun k => bif b then f k else g k) Q := by subst h; exact h1
theorem TP.both {b : Bool} {f g : Nat → Option α} {Q : α → Prop} (h1 : TP f Q) (h2 : TP g Q) : TP (fun k => bif b then f k else g k) Q := TP.cond (fun _ => h1) (fun _ => h2)
theorem Runs.tp {f : Nat → Option α} {v : α} {Q : α → Prop} (h : Runs f v) (h' : Q v) : TP f Q := ⟨v, h, h'⟩
theorem TP.one {f : Nat → Option ((Bool × Unit) × Unit)} (h : TP f (fun v => v.1.1 = true)) : ∃ k, f k = Option.some ((true, ()), ()) := by
 obtain ⟨⟨⟨b, ⟨⟩⟩, ⟨⟩⟩, hv, hb⟩ := h
 have : b = true := hb
 subst this
 exact hv.ex
theorem TP.eqI {a b : Int} {f g : Nat → Option α} {Q : α → Prop} (h1 : a = b → TP f Q) (h2 : a ≠ b → TP g Q) : TP (fun k => bif a == b then f k else g k) Q :=
 TP.cond (fun h => h1 (eq_of_beq h)) (fun h => h2 (by simpa using h))
theorem TP.neI {a b : Int} {f g : Nat → Option α} {Q : α → Prop} (h1 : a ≠ b → TP f Q) (h2 : a = b → TP g Q) : TP (fun k => bif a != b then f k else g k) Q :=
 TP.cond (fun h => h1 (by simpa using h)) (fun h => h2 (by simpa using h))
theorem TP.not {b : Bool} {f g : Nat → Option α} {Q : α → Prop} (h1 : b = false → TP f Q) (h2 : b = true → TP g Q) : TP (fun k => bif !b then f k else g k) Q :=
 TP.cond (fun h => h1 (by simpa using h)) (fun h => h2 (by simpa using h))
end
end Go.Proofs.Ytcjiipbppkdkaaa.Pure
