/- Laid by erow.py: the pure statement of chartulary/chartularylaw21.ExtractShows. -/
import Derived.Test.YtioagphpiflplaaEDefs
import Derived.Test.YtioagphpiflplaaEOpen
namespace Go.Proofs.Ytioagphpiflplaa.E
open Go Go.Proofs.Ytioagphpiflplaa.Eng
/-- The one pure statement. -/
def chartularylaw21_ExtractShows.Pure : Prop := ∀ (x0 : List (Bool × ByteArray × ByteArray × ByteArray × Unit)) (x1 : ByteArray) (x2 : ByteArray) (x3 : ByteArray), wfT (.sl (.cons .bool (.cons .str (.cons .str (.cons .str .nil))))) x0 → wfT .str x1 → wfT .str x2 → wfT .str x3 → bulkT (.sl (.cons .bool (.cons .str (.cons .str (.cons .str .nil))))) x0 + bulkT .str x1 + bulkT .str x2 + bulkT .str x3 ≤ 1048576 → ∃ k, chartularylaw21_ExtractShows.f k x0 x1 x2 x3 = some ((true, ()), ())
end Go.Proofs.Ytioagphpiflplaa.E
