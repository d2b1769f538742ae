/- Laid by erow.py: the pure statement of chartulary/chartularylaw26.AskMore. -/
import Derived.Test.YtpidgdelfaidoaaEDefs
import Derived.Test.YtpidgdelfaidoaaEOpen
namespace Go.Proofs.Ytpidgdelfaidoaa.E
open Go Go.Proofs.Ytpidgdelfaidoaa.Eng
/-- The one pure statement. -/
def chartularylaw26_AskMore.Pure : Prop := ∀ (x0 : List (ByteArray × (Int × Bool × Int × Int × ByteArray × Unit) × (Int × Bool × Int × Int × ByteArray × Unit) × Bool × Bool × Bool × Unit) × ByteArray × Bool × Int × Unit), wfT (.cons (.sl (.cons .str (.cons (.cons (.int .i64) (.cons .bool (.cons (.int .i64) (.cons (.int .u64) (.cons .str .nil))))) (.cons (.cons (.int .i64) (.cons .bool (.cons (.int .i64) (.cons (.int .u64) (.cons .str .nil))))) (.cons .bool (.cons .bool (.cons .bool .nil))))))) (.cons .str (.cons .bool (.cons (.int .i64) .nil)))) x0 → bulkT (.cons (.sl (.cons .str (.cons (.cons (.int .i64) (.cons .bool (.cons (.int .i64) (.cons (.int .u64) (.cons .str .nil))))) (.cons (.cons (.int .i64) (.cons .bool (.cons (.int .i64) (.cons (.int .u64) (.cons .str .nil))))) (.cons .bool (.cons .bool (.cons .bool .nil))))))) (.cons .str (.cons .bool (.cons (.int .i64) .nil)))) x0 ≤ 1048576 → ∃ k, chartularylaw26_AskMore.f k x0 = some ((true, ()), ())
end Go.Proofs.Ytpidgdelfaidoaa.E
