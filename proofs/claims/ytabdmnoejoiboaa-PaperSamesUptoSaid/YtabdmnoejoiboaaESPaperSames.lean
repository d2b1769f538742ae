/- Laid by erow.py: the pure statement of chartulary/chartularylaw05.PaperSames. -/
import Derived.Test.YtabdmnoejoiboaaEDefs
import Derived.Test.YtabdmnoejoiboaaEOpen
namespace Go.Proofs.Ytabdmnoejoiboaa.E
open Go Go.Proofs.Ytabdmnoejoiboaa.Eng
/-- The one pure statement. -/
def chartularylaw05_PaperSames.Pure : Prop := ∀ (x0 : ByteArray × Int × List (ByteArray × (Int × Bool × Int × Int × ByteArray × Unit) × Unit) × Unit) (x1 : ByteArray × Int × List (ByteArray × (Int × Bool × Int × Int × ByteArray × Unit) × Unit) × Unit) (x2 : ByteArray), wfT (.cons .str (.cons (.int .i64) (.cons (.sl (.cons .str (.cons (.cons (.int .i64) (.cons .bool (.cons (.int .i64) (.cons (.int .u64) (.cons .str .nil))))) .nil))) .nil))) x0 → wfT (.cons .str (.cons (.int .i64) (.cons (.sl (.cons .str (.cons (.cons (.int .i64) (.cons .bool (.cons (.int .i64) (.cons (.int .u64) (.cons .str .nil))))) .nil))) .nil))) x1 → wfT .str x2 → bulkT (.cons .str (.cons (.int .i64) (.cons (.sl (.cons .str (.cons (.cons (.int .i64) (.cons .bool (.cons (.int .i64) (.cons (.int .u64) (.cons .str .nil))))) .nil))) .nil))) x0 + bulkT (.cons .str (.cons (.int .i64) (.cons (.sl (.cons .str (.cons (.cons (.int .i64) (.cons .bool (.cons (.int .i64) (.cons (.int .u64) (.cons .str .nil))))) .nil))) .nil))) x1 + bulkT .str x2 ≤ 1048576 → ∃ k, chartularylaw05_PaperSames.f k x0 x1 x2 = some ((true, ()), ())
end Go.Proofs.Ytabdmnoejoiboaa.E
