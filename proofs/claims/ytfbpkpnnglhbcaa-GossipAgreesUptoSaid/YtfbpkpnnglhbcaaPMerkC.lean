/- Plain laws: climbs. -/
import Derived.Test.YtfbpkpnnglhbcaaPMerkS
namespace Go.Proofs.Ytfbpkpnnglhbcaa.Pure
open Go Go.Proofs.Ytfbpkpnnglhbcaa.E Go.Proofs.Ytfbpkpnnglhbcaa.Eng
set_option linter.unusedVariables false
set_option linter.unusedSimpArgs false
section
variable {T : Tab}
def ClimbP (T : Tab) (x : ByteArray) (i n : Nat) (p : List ByteArray) (v : ByteArray × Bool × Unit) : Prop := v.2.1 = decide (p.length = depthV i n) ∧ (p.length = depthV i n → v.1 = climbV T x i n p) ∧ v.1.size ≤ 32
noncomputable def ClimbA (T : Tab) (x : ByteArray) (i n : Int) (p : List ByteArray) : ByteArray × Int × Unit :=
 if n < 1 ∨ n > 65536 ∨ i < 0 ∨ i ≥ n then (⟨#[]⟩, 21, ()) else if p.length > 16 ∨ x.size ≠ 32 ∨ sumsB p = false then (⟨#[]⟩, 20, ()) else if p.length ≠ depthV i.toNat n.toNat then (⟨#[]⟩, 20, ()) else (climbV T x i.toNat n.toNat p, 0, ())
end
end Go.Proofs.Ytfbpkpnnglhbcaa.Pure
