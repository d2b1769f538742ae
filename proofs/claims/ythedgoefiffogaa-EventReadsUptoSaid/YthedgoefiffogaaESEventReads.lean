/- Laid by erow.py: the pure statement of chartulary/chartularylaw14.EventReads. -/
import Derived.Test.YthedgoefiffogaaEDefs
import Derived.Test.YthedgoefiffogaaEOpen
namespace Go.Proofs.Ythedgoefiffogaa.E
open Go Go.Proofs.Ythedgoefiffogaa.Eng
/-- The one pure statement. -/
def chartularylaw14_EventReads.Pure : Prop := ∀ (x0 : ByteArray), wfT .str x0 → bulkT .str x0 ≤ 1048576 → ∃ k, chartularylaw14_EventReads.f k x0 = some ((true, ()), ())
end Go.Proofs.Ythedgoefiffogaa.E
