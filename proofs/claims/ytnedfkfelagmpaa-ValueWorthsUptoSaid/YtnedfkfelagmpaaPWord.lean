/- Plain laws: words of signs (IDs, names), and more of rounds. -/
import Derived.Test.YtnedfkfelagmpaaPBase
import Derived.KernelRfl
namespace Go.Proofs.Ytnedfkfelagmpaa.Pure
open Go Go.Proofs.Ytnedfkfelagmpaa.E Go.Proofs.Ytnedfkfelagmpaa.Eng
set_option linter.unusedVariables false
set_option linter.unusedSimpArgs false

abbrev V1 (α : Type) := (α × Unit) × Unit
section
variable {α : Type}
/-- A test that must be, and what follows. -/
theorem Runs.and {b v : Bool} {f g : Nat → Option (V1 Bool)} (h1 : b = true → Runs f ((v, ()), ())) (h2 : Runs g ((false, ()), ())) : Runs (fun k => bif b then f k else g k) ((b && v, ()), ()) := by
  cases b with
  | true => exact h1 rfl
  | false => exact h2
theorem Runs.vbool {f : Nat → Option (V1 Bool)} {v w : Bool} (h : Runs f ((v, ()), ())) (e : v = w) : Runs f ((w, ()), ()) := e ▸ h
end
abbrev rfalse {α : Type} {v : α} : Runs (fun _ => Option.some v) v := Runs.some
end Go.Proofs.Ytnedfkfelagmpaa.Pure
