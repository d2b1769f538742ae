/- Laid by erow.py: the pure statement of chartulary/chartularylaw07.MerkleRoots. -/
import Derived.Test.YtoceopdoedmgoaaEDefs
import Derived.Test.YtoceopdoedmgoaaEOpen
namespace Go.Proofs.Ytoceopdoedmgoaa.E
open Go Go.Proofs.Ytoceopdoedmgoaa.Eng
/-- The one pure statement. -/
def chartularylaw07_MerkleRoots.Pure : Prop := ∀ (x0 : List ByteArray), wfT (.sl .str) x0 → bulkT (.sl .str) x0 ≤ 1048576 → ∃ k, chartularylaw07_MerkleRoots.f k x0 = some ((true, ()), ())
end Go.Proofs.Ytoceopdoedmgoaa.E
