/- Plain laws: which growths are believed. -/
import Derived.Test.YtoceopdoedmgoaaPMerkS
namespace Go.Proofs.Ytoceopdoedmgoaa.Pure
open Go Go.Proofs.Ytoceopdoedmgoaa.E Go.Proofs.Ytoceopdoedmgoaa.Eng
set_option linter.unusedVariables false
set_option linter.unusedSimpArgs false

section
variable {T : Tab}
/-- What two climbs come to: both roots where the proof has the right length. -/
def BothP (T : Tab) (a n : Nat) (w : Bool) (old : ByteArray) (p : List ByteArray) (v : ByteArray × ByteArray × Bool × Unit) : Prop := v.2.2.1 = decide (p.length = longV a n w) ∧ (p.length = longV a n w → (v.1, v.2.1) = bothV T a n w old p) ∧ v.1.size ≤ 32 ∧ v.2.1.size ≤ 32
/-- What Grown answers. -/
noncomputable def GrownA (T : Tab) (a : Int) (x : ByteArray) (n : Int) (y : ByteArray) (p : List ByteArray) : Int :=
  if a < 0 ∨ a > n ∨ n > 65536 then 21 else if x.size ≠ 32 ∨ y.size ≠ 32 then 19 else if p.length > 17 ∨ sumsB p = false then 20 else
  if a = 0 then (if x ≠ noneV T ∨ (n = 0 ∧ y ≠ x) then 19 else if p.length > 0 then 20 else 0) else
  if p.length ≠ longV a.toNat n.toNat true then 20 else if bothV T a.toNat n.toNat true x p ≠ (x, y) then 19 else 0
end
end Go.Proofs.Ytoceopdoedmgoaa.Pure
