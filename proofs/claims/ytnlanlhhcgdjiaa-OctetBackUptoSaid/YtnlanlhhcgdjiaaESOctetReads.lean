/- Laid by erow.py: the pure statement of chartulary/chartularylaw01.OctetReads. -/
import Derived.Test.YtnlanlhhcgdjiaaEDefs
import Derived.Test.YtnlanlhhcgdjiaaEOpen
namespace Go.Proofs.Ytnlanlhhcgdjiaa.E
open Go Go.Proofs.Ytnlanlhhcgdjiaa.Eng
/-- The one pure statement. -/
def chartularylaw01_OctetReads.Pure : Prop := ∀ (x0 : ByteArray) (x1 : List (Int × Int × Int × Unit)), wfT .str x0 → wfT (.sl (.cons (.int .i64) (.cons (.int .i64) (.cons (.int .i64) .nil)))) x1 → bulkT .str x0 + bulkT (.sl (.cons (.int .i64) (.cons (.int .i64) (.cons (.int .i64) .nil)))) x1 ≤ 1048576 → ∃ k, chartularylaw01_OctetReads.f k x0 x1 = some ((true, ()), ())
end Go.Proofs.Ytnlanlhhcgdjiaa.E
