/- Plain laws: chapter 7: the root, as the document has it. -/
import Derived.Test.YtfbpkpnnglhbcaaPMerkR
namespace Go.Proofs.Ytfbpkpnnglhbcaa.Pure
open Go Go.Proofs.Ytfbpkpnnglhbcaa.E Go.Proofs.Ytfbpkpnnglhbcaa.Eng
set_option linter.unusedVariables false
set_option linter.unusedSimpArgs false
section
variable {T : Tab}
end
end Go.Proofs.Ytfbpkpnnglhbcaa.Pure
