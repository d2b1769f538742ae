/- Laid by erow.py: the pure statement of chartulary/chartularylaw21.ExtractGrown. -/
import Derived.Test.YtioagphpiflplaaEDefs
import Derived.Test.YtioagphpiflplaaEOpen
namespace Go.Proofs.Ytioagphpiflplaa.E
open Go Go.Proofs.Ytioagphpiflplaa.Eng
/-- The one pure statement. -/
def chartularylaw21_ExtractGrown.Pure : Prop := ∀ (x0 : List (Bool × ByteArray × ByteArray × ByteArray × Unit)) (x1 : List ByteArray) (x2 : List ByteArray) (x3 : List ByteArray), wfT (.sl (.cons .bool (.cons .str (.cons .str (.cons .str .nil))))) x0 → wfT (.sl .str) x1 → wfT (.sl .str) x2 → wfT (.sl .str) x3 → bulkT (.sl (.cons .bool (.cons .str (.cons .str (.cons .str .nil))))) x0 + bulkT (.sl .str) x1 + bulkT (.sl .str) x2 + bulkT (.sl .str) x3 ≤ 1048576 → ∃ k, chartularylaw21_ExtractGrown.f k x0 x1 x2 x3 = some ((true, ()), ())
end Go.Proofs.Ytioagphpiflplaa.E
