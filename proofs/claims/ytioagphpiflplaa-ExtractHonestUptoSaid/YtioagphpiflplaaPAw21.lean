/- Plain laws of chapter 21: the example, by evaluation: with a thousand rounds it is true (the sums are what SHA-256 says), and more rounds come to the same. -/
import Derived.Test.YtioagphpiflplaaPLeW
import Derived.Test.YtioagphpiflplaaPAw21E
namespace Go.Proofs.Ytioagphpiflplaa.Pure
open Go Go.Proofs.Ytioagphpiflplaa.E Go.Proofs.Ytioagphpiflplaa.Eng
set_option linter.unusedVariables false
set_option linter.unusedSimpArgs false

theorem shows_le (k : Nat) {l : List Row} (hb : l.length ≤ 1000000000) (r x y : ByteArray) : Le (extract_Shows.f k l r x y) (extract_Shows.f (k + 1) l r x y) := by
  cases k with
  | zero => exact Le.none _
  | succ k => exact Le.orW hb (fun _ => Le.cond (Le.refl _) (Le.bind (proof_Read.le ..) fun _ => Le.cond (Le.refl _) (Le.bind (proof_Read.le ..) fun _ => Le.cond (Le.refl _) (Le.bind (auditor_Check.le ..) fun _ => Le.cond (Le.refl _) (Le.bind (auditor_Check.le ..) fun _ => Le.cond (Le.refl _) (Le.bind (extract_against.le ..) fun _ => Le.cond (Le.refl _) (Le.bind (extract_found.le ..) fun _ => Le.refl _))))))) (fun _ => Le.cond (Le.refl _) (Le.bind (proof_Read.le ..) fun _ => Le.cond (Le.refl _) (Le.bind (proof_Read.le ..) fun _ => Le.cond (Le.refl _) (Le.refl _))))
theorem awake_le (k : Nat) : Le (chartularylaw21_awake.f k) (chartularylaw21_awake.f (k + 1)) := by
  cases k with
  | zero => exact Le.none _
  | succ k =>
    unfold chartularylaw21_awake.f
    refine Le.bind (Le.refl _) fun _ => ?_
    refine Le.bind (mill_New.le ..) fun _ => Le.bind (pledge_Of.le ..) fun _ => Le.bind (sheet_Leaf.le ..) fun _ => Le.bind (sheet_Paper.le ..) fun _ => Le.bind (chartularylaw21_one.le ..) fun _ => Le.bind (chartularylaw21_one.le ..) fun _ => ?_
    refine Le.bind (shows_le _ ?_ _ _ _) fun _ => Le.cond (Le.cond (Le.refl _) (Le.refl _)) (Le.refl _)
    exact Nat.le_of_ble_eq_true rfl
theorem awake_ok : TP (fun k => chartularylaw21_awake.f k) (fun v => v.1 = (true, ())) := (Le.runs awake_le awake_at).tp rfl
theorem awake_end {g : Nat → Option ((Bool × Unit) × Unit)} (h : ∀ k, g k = (chartularylaw21_awake.f k).bind fun r => some ((r.1.1, ()), ())) : TP g (fun v => v.1.1 = true) := by
  have : g = fun k => (chartularylaw21_awake.f k).bind fun r => some ((r.1.1, ()), ()) := funext h
  rw [this]
  exact TP.bindM awake_ok fun _ => TP.some rfl
end Go.Proofs.Ytioagphpiflplaa.Pure
