/- Laid by erow.py: the pure statement of chartulary/chartularylaw08.SheetBuilds. -/
import Derived.Test.YtdeboaknhkffpaaEDefs
import Derived.Test.YtdeboaknhkffpaaEOpen
namespace Go.Proofs.Ytdeboaknhkffpaa.E
open Go Go.Proofs.Ytdeboaknhkffpaa.Eng
/-- The one pure statement. -/
def chartularylaw08_SheetBuilds.Pure : Prop := ∀ (x0 : Int) (x1 : List Int) (x2 : List ByteArray) (x3 : List ByteArray), wfT (.int .i64) x0 → wfT (.sl (.int .i64)) x1 → wfT (.sl .str) x2 → wfT (.sl .str) x3 → bulkT (.int .i64) x0 + bulkT (.sl (.int .i64)) x1 + bulkT (.sl .str) x2 + bulkT (.sl .str) x3 ≤ 1048576 → ∃ k, chartularylaw08_SheetBuilds.f k x0 x1 x2 x3 = some ((true, ()), ())
end Go.Proofs.Ytdeboaknhkffpaa.E
