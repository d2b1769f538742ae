/- Laid by erow.py: the pure statement of chartulary/chartularylaw07.MerkleGrowns. -/
import Derived.Test.YtoceopdoedmgoaaEDefs
import Derived.Test.YtoceopdoedmgoaaEOpen
namespace Go.Proofs.Ytoceopdoedmgoaa.E
open Go Go.Proofs.Ytoceopdoedmgoaa.Eng
/-- The one pure statement. -/
def chartularylaw07_MerkleGrowns.Pure : Prop := ∀ (x0 : Int × ByteArray × Unit) (x1 : Int × ByteArray × Unit) (x2 : List ByteArray), wfT (.cons (.int .i64) (.cons .str .nil)) x0 → wfT (.cons (.int .i64) (.cons .str .nil)) x1 → wfT (.sl .str) x2 → bulkT (.cons (.int .i64) (.cons .str .nil)) x0 + bulkT (.cons (.int .i64) (.cons .str .nil)) x1 + bulkT (.sl .str) x2 ≤ 1048576 → ∃ k, chartularylaw07_MerkleGrowns.f k x0 x1 x2 = some ((true, ()), ())
end Go.Proofs.Ytoceopdoedmgoaa.E
