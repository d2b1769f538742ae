/- Plain laws of chapter 4: which whole number a float is worth: by the program and by the document. -/
import Derived.Test.YtcjiipbppkdkaaaPFlo
import Derived.Test.YtcjiipbppkdkaaaPComb
namespace Go.Proofs.Ytcjiipbppkdkaaa.Pure
open Go Go.Proofs.Ytcjiipbppkdkaaa.E Go.Proofs.Ytcjiipbppkdkaaa.Eng
set_option linter.unusedVariables false
set_option linter.unusedSimpArgs false

end Go.Proofs.Ytcjiipbppkdkaaa.Pure
