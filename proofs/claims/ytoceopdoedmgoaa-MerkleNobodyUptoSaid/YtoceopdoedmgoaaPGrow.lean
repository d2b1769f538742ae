/- Plain laws: growths. -/
import Derived.Test.YtoceopdoedmgoaaPMerk
import Derived.Test.YtoceopdoedmgoaaPBoth
namespace Go.Proofs.Ytoceopdoedmgoaa.Pure
open Go Go.Proofs.Ytoceopdoedmgoaa.E Go.Proofs.Ytoceopdoedmgoaa.Eng
set_option linter.unusedVariables false
set_option linter.unusedSimpArgs false

section
variable {T : Tab}
noncomputable def GrowthA (T : Tab) (l : List ByteArray) (a : Int) : List ByteArray × Int × Unit := if a < 0 ∨ a > l.length then ([], 21, ()) else if a = 0 then ([], 0, ()) else (growV T l a.toNat true, 0, ())
end
end Go.Proofs.Ytoceopdoedmgoaa.Pure
