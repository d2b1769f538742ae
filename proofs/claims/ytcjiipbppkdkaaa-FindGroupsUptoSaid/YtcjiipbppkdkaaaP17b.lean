/- Plain laws of chapter 17: what a query without an order finds; the document's cuts. -/
import Derived.Test.YtcjiipbppkdkaaaP17a
namespace Go.Proofs.Ytcjiipbppkdkaaa.Pure
open Go Go.Proofs.Ytcjiipbppkdkaaa.E Go.Proofs.Ytcjiipbppkdkaaa.Eng
set_option linter.unusedVariables false
set_option linter.unusedSimpArgs false
def selI (f : Pap → Bool) : Nat → List Pap → List Int
 | _, [] => []
 | i, p :: r => if f p = true then (i : Int) :: selI f (i + 1) r else selI f (i + 1) r
noncomputable def allV (l : List Trm) (p : Pap) : Bool := l.all fun t => holdsV t p
def PapsOk (l : List Pap) : Prop := l.length ≤ 1000000 ∧ ∀ p ∈ l, p.2.2.1.length ≤ 1000000000
section
variable (q : Qry) (l : List Pap) (hq : q.1.length ≤ 1000000000) (hl : PapsOk l)
include hq hl
omit hl in
end
end Go.Proofs.Ytcjiipbppkdkaaa.Pure
