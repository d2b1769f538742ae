/- Laid by erow.py: the pure statement of chartulary/chartularylaw07.MerkleLeaf. -/
import Derived.Test.YtoceopdoedmgoaaEDefs
import Derived.Test.YtoceopdoedmgoaaEOpen
namespace Go.Proofs.Ytoceopdoedmgoaa.E
open Go Go.Proofs.Ytoceopdoedmgoaa.Eng
/-- The one pure statement. -/
def chartularylaw07_MerkleLeaf.Pure : Prop := ∀ (x0 : List (Bool × ByteArray × ByteArray × ByteArray × Unit)) (x1 : Int) (x2 : Int) (x3 : ByteArray) (x4 : List ByteArray) (x5 : ByteArray) (x6 : List ByteArray), wfT (.sl (.cons .bool (.cons .str (.cons .str (.cons .str .nil))))) x0 → wfT (.int .i64) x1 → wfT (.int .i64) x2 → wfT .str x3 → wfT (.sl .str) x4 → wfT .str x5 → wfT (.sl .str) x6 → bulkT (.sl (.cons .bool (.cons .str (.cons .str (.cons .str .nil))))) x0 + bulkT (.int .i64) x1 + bulkT (.int .i64) x2 + bulkT .str x3 + bulkT (.sl .str) x4 + bulkT .str x5 + bulkT (.sl .str) x6 ≤ 1048576 → ∃ k, chartularylaw07_MerkleLeaf.f k x0 x1 x2 x3 x4 x5 x6 = some ((true, ()), ())
end Go.Proofs.Ytoceopdoedmgoaa.E
