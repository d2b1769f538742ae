/- Laid by erow.py: the pure statement of chartulary/chartularylaw08.SheetNodes. -/
import Derived.Test.YtdeboaknhkffpaaEDefs
import Derived.Test.YtdeboaknhkffpaaEOpen
namespace Go.Proofs.Ytdeboaknhkffpaa.E
open Go Go.Proofs.Ytdeboaknhkffpaa.Eng
/-- The one pure statement. -/
def chartularylaw08_SheetNodes.Pure : Prop := ∀ (x0 : List (ByteArray × ByteArray × ByteArray × Bool × Unit)) (x1 : List Int), wfT (.sl (.cons .str (.cons .str (.cons .str (.cons .bool .nil))))) x0 → wfT (.sl (.int .i64)) x1 → bulkT (.sl (.cons .str (.cons .str (.cons .str (.cons .bool .nil))))) x0 + bulkT (.sl (.int .i64)) x1 ≤ 1048576 → ∃ k, chartularylaw08_SheetNodes.f k x0 x1 = some ((true, ()), ())
end Go.Proofs.Ytdeboaknhkffpaa.E
