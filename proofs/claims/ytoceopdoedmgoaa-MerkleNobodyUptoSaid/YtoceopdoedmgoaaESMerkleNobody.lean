/- Laid by erow.py: the pure statement of chartulary/chartularylaw07.MerkleNobody. -/
import Derived.Test.YtoceopdoedmgoaaEDefs
import Derived.Test.YtoceopdoedmgoaaEOpen
namespace Go.Proofs.Ytoceopdoedmgoaa.E
open Go Go.Proofs.Ytoceopdoedmgoaa.Eng
/-- The one pure statement. -/
def chartularylaw07_MerkleNobody.Pure : Prop := ∀ (x0 : ByteArray), wfT .str x0 → bulkT .str x0 ≤ 1048576 → ∃ k, chartularylaw07_MerkleNobody.f k x0 = some ((true, ()), ())
end Go.Proofs.Ytoceopdoedmgoaa.E
