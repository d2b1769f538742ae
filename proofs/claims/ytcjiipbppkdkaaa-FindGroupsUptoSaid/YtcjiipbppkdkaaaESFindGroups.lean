/- Laid by erow.py: the pure statement of chartulary/chartularylaw17.FindGroups. -/
import Derived.Test.YtcjiipbppkdkaaaEDefs
import Derived.Test.YtcjiipbppkdkaaaEOpen
namespace Go.Proofs.Ytcjiipbppkdkaaa.E
open Go Go.Proofs.Ytcjiipbppkdkaaa.Eng
/-- The one pure statement. -/
def chartularylaw17_FindGroups.Pure : Prop := ∀ (x0 : ByteArray) (x1 : Bool) (x2 : List (ByteArray × Int × List (ByteArray × (Int × Bool × Int × Int × ByteArray × Unit) × Unit) × Unit)), wfT .str x0 → wfT .bool x1 → wfT (.sl (.cons .str (.cons (.int .i64) (.cons (.sl (.cons .str (.cons (.cons (.int .i64) (.cons .bool (.cons (.int .i64) (.cons (.int .u64) (.cons .str .nil))))) .nil))) .nil)))) x2 → bulkT .str x0 + bulkT .bool x1 + bulkT (.sl (.cons .str (.cons (.int .i64) (.cons (.sl (.cons .str (.cons (.cons (.int .i64) (.cons .bool (.cons (.int .i64) (.cons (.int .u64) (.cons .str .nil))))) .nil))) .nil)))) x2 ≤ 1048576 → ∃ k, chartularylaw17_FindGroups.f k x0 x1 x2 = some ((true, ()), ())
end Go.Proofs.Ytcjiipbppkdkaaa.E
