/- Laid by erow.py: the pure statement of chartulary/chartularylaw04.ValueWorths. -/
import Derived.Test.YtnedfkfelagmpaaEDefs
import Derived.Test.YtnedfkfelagmpaaEOpen
namespace Go.Proofs.Ytnedfkfelagmpaa.E
open Go Go.Proofs.Ytnedfkfelagmpaa.Eng
/-- The one pure statement. -/
def chartularylaw04_ValueWorths.Pure : Prop := ∀ (x0 : Int × Bool × Int × Int × ByteArray × Unit) (x1 : Int × Bool × Int × Int × ByteArray × Unit), wfT (.cons (.int .i64) (.cons .bool (.cons (.int .i64) (.cons (.int .u64) (.cons .str .nil))))) x0 → wfT (.cons (.int .i64) (.cons .bool (.cons (.int .i64) (.cons (.int .u64) (.cons .str .nil))))) x1 → bulkT (.cons (.int .i64) (.cons .bool (.cons (.int .i64) (.cons (.int .u64) (.cons .str .nil))))) x0 + bulkT (.cons (.int .i64) (.cons .bool (.cons (.int .i64) (.cons (.int .u64) (.cons .str .nil))))) x1 ≤ 1048576 → ∃ k, chartularylaw04_ValueWorths.f k x0 x1 = some ((true, ()), ())
end Go.Proofs.Ytnedfkfelagmpaa.E
