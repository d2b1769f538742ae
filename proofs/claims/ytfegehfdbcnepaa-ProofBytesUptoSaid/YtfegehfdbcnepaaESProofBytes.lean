/- Laid by erow.py: the pure statement of chartulary/chartularylaw19.ProofBytes. -/
import Derived.Test.YtfegehfdbcnepaaEDefs
import Derived.Test.YtfegehfdbcnepaaEOpen
namespace Go.Proofs.Ytfegehfdbcnepaa.E
open Go Go.Proofs.Ytfegehfdbcnepaa.Eng
/-- The one pure statement. -/
def chartularylaw19_ProofBytes.Pure : Prop := ∀ (x0 : ByteArray × Int × Int × Int × List (Int × ByteArray × Bool × ByteArray × ByteArray × ByteArray × Unit) × List ByteArray × Int × Int × List ByteArray × Unit), wfT (.cons .str (.cons (.int .i64) (.cons (.int .i64) (.cons (.int .i64) (.cons (.sl (.cons (.int .i64) (.cons .str (.cons .bool (.cons .str (.cons .str (.cons .str .nil))))))) (.cons (.sl .str) (.cons (.int .i64) (.cons (.int .i64) (.cons (.sl .str) .nil))))))))) x0 → bulkT (.cons .str (.cons (.int .i64) (.cons (.int .i64) (.cons (.int .i64) (.cons (.sl (.cons (.int .i64) (.cons .str (.cons .bool (.cons .str (.cons .str (.cons .str .nil))))))) (.cons (.sl .str) (.cons (.int .i64) (.cons (.int .i64) (.cons (.sl .str) .nil))))))))) x0 ≤ 1048576 → ∃ k, chartularylaw19_ProofBytes.f k x0 = some ((true, ()), ())
end Go.Proofs.Ytfegehfdbcnepaa.E
