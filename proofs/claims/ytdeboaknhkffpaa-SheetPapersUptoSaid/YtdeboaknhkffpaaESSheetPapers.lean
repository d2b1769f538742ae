/- Laid by erow.py: the pure statement of chartulary/chartularylaw08.SheetPapers. -/
import Derived.Test.YtdeboaknhkffpaaEDefs
import Derived.Test.YtdeboaknhkffpaaEOpen
namespace Go.Proofs.Ytdeboaknhkffpaa.E
open Go Go.Proofs.Ytdeboaknhkffpaa.Eng
/-- The one pure statement. -/
def chartularylaw08_SheetPapers.Pure : Prop := ∀ (x0 : ByteArray × Int × Int × Int × List (ByteArray × ByteArray × ByteArray × Bool × Unit) × Bool × List ByteArray × Unit), wfT (.cons .str (.cons (.int .i64) (.cons (.int .i64) (.cons (.int .i64) (.cons (.sl (.cons .str (.cons .str (.cons .str (.cons .bool .nil))))) (.cons .bool (.cons (.sl .str) .nil))))))) x0 → bulkT (.cons .str (.cons (.int .i64) (.cons (.int .i64) (.cons (.int .i64) (.cons (.sl (.cons .str (.cons .str (.cons .str (.cons .bool .nil))))) (.cons .bool (.cons (.sl .str) .nil))))))) x0 ≤ 1048576 → ∃ k, chartularylaw08_SheetPapers.f k x0 = some ((true, ()), ())
end Go.Proofs.Ytdeboaknhkffpaa.E
