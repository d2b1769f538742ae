/- Laid by erow.py: the pure statement of chartulary/chartularylaw07.MerkleGrowths. -/
import Derived.Test.YtoceopdoedmgoaaEDefs
import Derived.Test.YtoceopdoedmgoaaEOpen
namespace Go.Proofs.Ytoceopdoedmgoaa.E
open Go Go.Proofs.Ytoceopdoedmgoaa.Eng
/-- The one pure statement. -/
def chartularylaw07_MerkleGrowths.Pure : Prop := ∀ (x0 : List ByteArray) (x1 : Int), wfT (.sl .str) x0 → wfT (.int .i64) x1 → bulkT (.sl .str) x0 + bulkT (.int .i64) x1 ≤ 1048576 → ∃ k, chartularylaw07_MerkleGrowths.f k x0 x1 = some ((true, ()), ())
end Go.Proofs.Ytoceopdoedmgoaa.E
