/- Plain laws: words of signs (IDs, names), and more of rounds. -/
import Derived.Test.YtcjiipbppkdkaaaPBase
import Derived.KernelRfl
namespace Go.Proofs.Ytcjiipbppkdkaaa.Pure
open Go Go.Proofs.Ytcjiipbppkdkaaa.E Go.Proofs.Ytcjiipbppkdkaaa.Eng
set_option linter.unusedVariables false
set_option linter.unusedSimpArgs false
abbrev V1 (α : Type) := (α × Unit) × Unit
section
variable {α : Type}
theorem Runs.and {b v : Bool} {f g : Nat → Option (V1 Bool)} (h1 : b = true → Runs f ((v, ()), ())) (h2 : Runs g ((false, ()), ())) : Runs (fun k => bif b then f k else g k) ((b && v, ()), ()) := by
 cases b with
 | true => exact h1 rfl
 | false => exact h2
theorem Runs.both {b : Bool} {f g : Nat → Option α} {v : α} (h1 : Runs f v) (h2 : Runs g v) : Runs (fun k => bif b then f k else g k) v := Runs.cond (fun _ => h1) (fun _ => h2)
theorem Runs.uniq {f : Nat → Option α} {v w : α} (h1 : Runs f v) (h2 : Runs f w) : v = w := by
 obtain ⟨a, ha⟩ := h1
 obtain ⟨b, hb⟩ := h2
 have := (ha (a + b) (by omega)).symm.trans (hb (a + b) (by omega))
 injection this
end
abbrev rfalse {α : Type} {v : α} : Runs (fun _ => Option.some v) v := Runs.some
noncomputable def signB (n : Int) : Bool := match paper_sign.f 1 n with | some r => r.1.1 | none => false
noncomputable def wordB (a : ByteArray) (most : Int) : Bool := !decide (a.size = 0) && (!decide ((a.size : Int) > most) && a.data.toList.all (fun c => signB (c.toNat : Int)))
end Go.Proofs.Ytcjiipbppkdkaaa.Pure
