/- Laid by erow.py: the pure statement of chartulary/chartularylaw05.PaperBytes. -/
import Derived.Test.YtabdmnoejoiboaaEDefs
import Derived.Test.YtabdmnoejoiboaaEOpen
namespace Go.Proofs.Ytabdmnoejoiboaa.E
open Go Go.Proofs.Ytabdmnoejoiboaa.Eng
/-- The one pure statement. -/
def chartularylaw05_PaperBytes.Pure : Prop := ∀ (x0 : ByteArray × Int × List (ByteArray × (Int × Bool × Int × Int × ByteArray × Unit) × Unit) × Unit), wfT (.cons .str (.cons (.int .i64) (.cons (.sl (.cons .str (.cons (.cons (.int .i64) (.cons .bool (.cons (.int .i64) (.cons (.int .u64) (.cons .str .nil))))) .nil))) .nil))) x0 → bulkT (.cons .str (.cons (.int .i64) (.cons (.sl (.cons .str (.cons (.cons (.int .i64) (.cons .bool (.cons (.int .i64) (.cons (.int .u64) (.cons .str .nil))))) .nil))) .nil))) x0 ≤ 1048576 → ∃ k, chartularylaw05_PaperBytes.f k x0 = some ((true, ()), ())
end Go.Proofs.Ytabdmnoejoiboaa.E
