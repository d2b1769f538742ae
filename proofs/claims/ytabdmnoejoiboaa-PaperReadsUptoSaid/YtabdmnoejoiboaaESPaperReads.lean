/- Laid by erow.py: the pure statement of chartulary/chartularylaw05.PaperReads. -/
import Derived.Test.YtabdmnoejoiboaaEDefs
import Derived.Test.YtabdmnoejoiboaaEOpen
namespace Go.Proofs.Ytabdmnoejoiboaa.E
open Go Go.Proofs.Ytabdmnoejoiboaa.Eng
/-- The one pure statement. -/
def chartularylaw05_PaperReads.Pure : Prop := ∀ (x0 : ByteArray), wfT .str x0 → bulkT .str x0 ≤ 1048576 → ∃ k, chartularylaw05_PaperReads.f k x0 = some ((true, ()), ())
end Go.Proofs.Ytabdmnoejoiboaa.E
