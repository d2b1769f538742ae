/- Laid by erow.py: the pure statement of chartulary/chartularylaw28.GossipCrosses. -/
import Derived.Test.YtfbpkpnnglhbcaaEDefs
import Derived.Test.YtfbpkpnnglhbcaaEOpen
namespace Go.Proofs.Ytfbpkpnnglhbcaa.E
open Go Go.Proofs.Ytfbpkpnnglhbcaa.Eng
/-- The one pure statement. -/
def chartularylaw28_GossipCrosses.Pure : Prop := ∀ (x0 : (Int × ByteArray × Unit) × (Int × ByteArray × Unit) × List ByteArray × Unit), wfT (.cons (.cons (.int .i64) (.cons .str .nil)) (.cons (.cons (.int .i64) (.cons .str .nil)) (.cons (.sl .str) .nil))) x0 → bulkT (.cons (.cons (.int .i64) (.cons .str .nil)) (.cons (.cons (.int .i64) (.cons .str .nil)) (.cons (.sl .str) .nil))) x0 ≤ 1048576 → ∃ k, chartularylaw28_GossipCrosses.f k x0 = some ((true, ()), ())
end Go.Proofs.Ytfbpkpnnglhbcaa.E
