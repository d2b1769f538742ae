/- Laid by erow.py: the pure statement of chartulary/chartularylaw01.OctetBack. -/
import Derived.Test.YtnlanlhhcgdjiaaEDefs
import Derived.Test.YtnlanlhhcgdjiaaEOpen
namespace Go.Proofs.Ytnlanlhhcgdjiaa.E
open Go Go.Proofs.Ytnlanlhhcgdjiaa.Eng
/-- The one pure statement. -/
def chartularylaw01_OctetBack.Pure : Prop := ∀ (x0 : List (Int × Int × ByteArray × Bool × List ByteArray × Unit)), wfT (.sl (.cons (.int .i64) (.cons (.int .i64) (.cons .str (.cons .bool (.cons (.sl .str) .nil)))))) x0 → bulkT (.sl (.cons (.int .i64) (.cons (.int .i64) (.cons .str (.cons .bool (.cons (.sl .str) .nil)))))) x0 ≤ 1048576 → ∃ k, chartularylaw01_OctetBack.f k x0 = some ((true, ()), ())
end Go.Proofs.Ytnlanlhhcgdjiaa.E
