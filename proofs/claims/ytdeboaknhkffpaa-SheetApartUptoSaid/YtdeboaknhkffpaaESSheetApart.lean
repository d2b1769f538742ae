/- Laid by erow.py: the pure statement of chartulary/chartularylaw08.SheetApart. -/
import Derived.Test.YtdeboaknhkffpaaEDefs
import Derived.Test.YtdeboaknhkffpaaEOpen
namespace Go.Proofs.Ytdeboaknhkffpaa.E
open Go Go.Proofs.Ytdeboaknhkffpaa.Eng
/-- The one pure statement. -/
def chartularylaw08_SheetApart.Pure : Prop := ∀ (x0 : List (Bool × ByteArray × ByteArray × ByteArray × Unit)) (x1 : Int) (x2 : List Int) (x3 : List ByteArray) (x4 : List ByteArray) (x5 : List ByteArray) (x6 : List ByteArray), wfT (.sl (.cons .bool (.cons .str (.cons .str (.cons .str .nil))))) x0 → wfT (.int .i64) x1 → wfT (.sl (.int .i64)) x2 → wfT (.sl .str) x3 → wfT (.sl .str) x4 → wfT (.sl .str) x5 → wfT (.sl .str) x6 → bulkT (.sl (.cons .bool (.cons .str (.cons .str (.cons .str .nil))))) x0 + bulkT (.int .i64) x1 + bulkT (.sl (.int .i64)) x2 + bulkT (.sl .str) x3 + bulkT (.sl .str) x4 + bulkT (.sl .str) x5 + bulkT (.sl .str) x6 ≤ 1048576 → ∃ k, chartularylaw08_SheetApart.f k x0 x1 x2 x3 x4 x5 x6 = some ((true, ()), ())
end Go.Proofs.Ytdeboaknhkffpaa.E
