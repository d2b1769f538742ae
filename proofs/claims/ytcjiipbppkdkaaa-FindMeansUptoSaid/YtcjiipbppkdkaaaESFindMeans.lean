/- Laid by erow.py: the pure statement of chartulary/chartularylaw17.FindMeans. -/
import Derived.Test.YtcjiipbppkdkaaaEDefs
import Derived.Test.YtcjiipbppkdkaaaEOpen
namespace Go.Proofs.Ytcjiipbppkdkaaa.E
open Go Go.Proofs.Ytcjiipbppkdkaaa.Eng
/-- The one pure statement. -/
def chartularylaw17_FindMeans.Pure : Prop := ∀ (x0 : List Int), wfT (.sl (.int .u64)) x0 → bulkT (.sl (.int .u64)) x0 ≤ 1048576 → ∃ k, chartularylaw17_FindMeans.f k x0 = some ((true, ()), ())
end Go.Proofs.Ytcjiipbppkdkaaa.E
