/- Laid by erow.py: the pure statement of chartulary/chartularylaw28.GossipCompares. -/
import Derived.Test.YtfbpkpnnglhbcaaEDefs
import Derived.Test.YtfbpkpnnglhbcaaEOpen
namespace Go.Proofs.Ytfbpkpnnglhbcaa.E
open Go Go.Proofs.Ytfbpkpnnglhbcaa.Eng
/-- The one pure statement. -/
def chartularylaw28_GossipCompares.Pure : Prop := ∀ (x0 : List (Int × ByteArray × Unit)) (x1 : List (Int × ByteArray × Unit)), wfT (.sl (.cons (.int .i64) (.cons .str .nil))) x0 → wfT (.sl (.cons (.int .i64) (.cons .str .nil))) x1 → bulkT (.sl (.cons (.int .i64) (.cons .str .nil))) x0 + bulkT (.sl (.cons (.int .i64) (.cons .str .nil))) x1 ≤ 1048576 → ∃ k, chartularylaw28_GossipCompares.f k x0 x1 = some ((true, ()), ())
end Go.Proofs.Ytfbpkpnnglhbcaa.E
