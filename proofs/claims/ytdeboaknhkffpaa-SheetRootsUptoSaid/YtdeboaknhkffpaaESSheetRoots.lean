/- Laid by erow.py: the pure statement of chartulary/chartularylaw08.SheetRoots. -/
import Derived.Test.YtdeboaknhkffpaaEDefs
import Derived.Test.YtdeboaknhkffpaaEOpen
namespace Go.Proofs.Ytdeboaknhkffpaa.E
open Go Go.Proofs.Ytdeboaknhkffpaa.Eng
/-- The one pure statement. -/
def chartularylaw08_SheetRoots.Pure : Prop := ∀ (x0 : List (ByteArray × ByteArray × ByteArray × Bool × Unit)), wfT (.sl (.cons .str (.cons .str (.cons .str (.cons .bool .nil))))) x0 → bulkT (.sl (.cons .str (.cons .str (.cons .str (.cons .bool .nil))))) x0 ≤ 1048576 → ∃ k, chartularylaw08_SheetRoots.f k x0 = some ((true, ()), ())
end Go.Proofs.Ytdeboaknhkffpaa.E
