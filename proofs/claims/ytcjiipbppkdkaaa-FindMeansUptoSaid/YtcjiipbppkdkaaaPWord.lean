/- Plain laws: words of signs (IDs, names), and more of rounds. -/
import Derived.Test.YtcjiipbppkdkaaaPBase
import Derived.KernelRfl
namespace Go.Proofs.Ytcjiipbppkdkaaa.Pure
open Go Go.Proofs.Ytcjiipbppkdkaaa.E Go.Proofs.Ytcjiipbppkdkaaa.Eng
set_option linter.unusedVariables false
set_option linter.unusedSimpArgs false

abbrev V1 (α : Type) := (α × Unit) × Unit
section
variable {α : Type}
/-- A test that must be, and what follows. -/
theorem Runs.and {b v : Bool} {f g : Nat → Option (V1 Bool)} (h1 : b = true → Runs f ((v, ()), ())) (h2 : Runs g ((false, ()), ())) : Runs (fun k => bif b then f k else g k) ((b && v, ()), ()) := by
  cases b with
  | true => exact h1 rfl
  | false => exact h2
end
abbrev rfalse {α : Type} {v : α} : Runs (fun _ => Option.some v) v := Runs.some

/-- Is it a sign? -/
noncomputable def signB (n : Int) : Bool := match paper_sign.f 1 n with | some r => r.1.1 | none => false
/-- Is a text of 1 to so many signs? -/
noncomputable def wordB (a : ByteArray) (most : Int) : Bool := !decide (a.size = 0) && (!decide ((a.size : Int) > most) && a.data.toList.all (fun c => signB (c.toNat : Int)))
end Go.Proofs.Ytcjiipbppkdkaaa.Pure
