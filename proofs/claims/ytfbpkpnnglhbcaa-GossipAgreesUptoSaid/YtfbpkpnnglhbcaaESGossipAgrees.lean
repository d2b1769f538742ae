/- Laid by erow.py: the pure statement of chartulary/chartularylaw28.GossipAgrees. -/
import Derived.Test.YtfbpkpnnglhbcaaEDefs
import Derived.Test.YtfbpkpnnglhbcaaEOpen
namespace Go.Proofs.Ytfbpkpnnglhbcaa.E
open Go Go.Proofs.Ytfbpkpnnglhbcaa.Eng
/-- The one pure statement. -/
def chartularylaw28_GossipAgrees.Pure : Prop := ∀ (x0 : List ByteArray) (x1 : List Int) (x2 : List Int), wfT (.sl .str) x0 → wfT (.sl (.int .i64)) x1 → wfT (.sl (.int .i64)) x2 → bulkT (.sl .str) x0 + bulkT (.sl (.int .i64)) x1 + bulkT (.sl (.int .i64)) x2 ≤ 1048576 → ∃ k, chartularylaw28_GossipAgrees.f k x0 x1 x2 = some ((true, ()), ())
end Go.Proofs.Ytfbpkpnnglhbcaa.E
