/- Laid by erow.py: the pure statement of chartulary/chartularylaw28.GossipNobody. -/
import Derived.Test.YtfbpkpnnglhbcaaEDefs
import Derived.Test.YtfbpkpnnglhbcaaEOpen
namespace Go.Proofs.Ytfbpkpnnglhbcaa.E
open Go Go.Proofs.Ytfbpkpnnglhbcaa.Eng
/-- The one pure statement. -/
def chartularylaw28_GossipNobody.Pure : Prop := ∀ (x0 : Int) (x1 : ByteArray), wfT (.int .i64) x0 → wfT .str x1 → bulkT (.int .i64) x0 + bulkT .str x1 ≤ 1048576 → ∃ k, chartularylaw28_GossipNobody.f k x0 x1 = some ((true, ()), ())
end Go.Proofs.Ytfbpkpnnglhbcaa.E
