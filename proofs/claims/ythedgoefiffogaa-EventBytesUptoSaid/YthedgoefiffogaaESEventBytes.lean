/- Laid by erow.py: the pure statement of chartulary/chartularylaw14.EventBytes. -/
import Derived.Test.YthedgoefiffogaaEDefs
import Derived.Test.YthedgoefiffogaaEOpen
namespace Go.Proofs.Ythedgoefiffogaa.E
open Go Go.Proofs.Ythedgoefiffogaa.Eng
/-- The one pure statement. -/
def chartularylaw14_EventBytes.Pure : Prop := ∀ (x0 : Int × (ByteArray × Int × Int × Int × List (ByteArray × ByteArray × ByteArray × Bool × Unit) × Bool × List ByteArray × Unit) × Int × Int × ByteArray × (Int × ByteArray × Unit) × Int × Unit), wfT (.cons (.int .i64) (.cons (.cons .str (.cons (.int .i64) (.cons (.int .i64) (.cons (.int .i64) (.cons (.sl (.cons .str (.cons .str (.cons .str (.cons .bool .nil))))) (.cons .bool (.cons (.sl .str) .nil))))))) (.cons (.int .i64) (.cons (.int .i64) (.cons .str (.cons (.cons (.int .i64) (.cons .str .nil)) (.cons (.int .i64) .nil))))))) x0 → bulkT (.cons (.int .i64) (.cons (.cons .str (.cons (.int .i64) (.cons (.int .i64) (.cons (.int .i64) (.cons (.sl (.cons .str (.cons .str (.cons .str (.cons .bool .nil))))) (.cons .bool (.cons (.sl .str) .nil))))))) (.cons (.int .i64) (.cons (.int .i64) (.cons .str (.cons (.cons (.int .i64) (.cons .str .nil)) (.cons (.int .i64) .nil))))))) x0 ≤ 1048576 → ∃ k, chartularylaw14_EventBytes.f k x0 = some ((true, ()), ())
end Go.Proofs.Ythedgoefiffogaa.E
