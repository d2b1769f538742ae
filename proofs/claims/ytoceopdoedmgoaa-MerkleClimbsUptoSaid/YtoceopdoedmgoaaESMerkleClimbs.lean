/- Laid by erow.py: the pure statement of chartulary/chartularylaw07.MerkleClimbs. -/
import Derived.Test.YtoceopdoedmgoaaEDefs
import Derived.Test.YtoceopdoedmgoaaEOpen
namespace Go.Proofs.Ytoceopdoedmgoaa.E
open Go Go.Proofs.Ytoceopdoedmgoaa.Eng
/-- The one pure statement. -/
def chartularylaw07_MerkleClimbs.Pure : Prop := ∀ (x0 : ByteArray) (x1 : Int) (x2 : Int) (x3 : List ByteArray), wfT .str x0 → wfT (.int .i64) x1 → wfT (.int .i64) x2 → wfT (.sl .str) x3 → bulkT .str x0 + bulkT (.int .i64) x1 + bulkT (.int .i64) x2 + bulkT (.sl .str) x3 ≤ 1048576 → ∃ k, chartularylaw07_MerkleClimbs.f k x0 x1 x2 x3 = some ((true, ()), ())
end Go.Proofs.Ytoceopdoedmgoaa.E
