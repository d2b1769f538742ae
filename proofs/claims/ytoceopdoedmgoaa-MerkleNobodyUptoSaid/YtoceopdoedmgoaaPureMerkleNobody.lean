/- Plain law: MerkleNobody. -/
import Derived.Test.YtoceopdoedmgoaaPLaw07
import Derived.Test.YtoceopdoedmgoaaESMerkleNobody
namespace Go.Proofs.Ytoceopdoedmgoaa.Pure
open Go Go.Proofs.Ytoceopdoedmgoaa.E Go.Proofs.Ytoceopdoedmgoaa.Eng
set_option linter.unusedVariables false
set_option linter.unusedSimpArgs false

theorem nadd_ok (s : ByteArray) : Runs (fun k => merkle_Front_Add_v1.f k s) ((), ()) := Runs.step (fun k => rfl) Runs.some
theorem nroot_ok : Runs (fun k => merkle_Front_Root_v1.f k) (((⟨#[]⟩ : ByteArray), ()), ()) := Runs.step (fun k => rfl) Runs.some
theorem nsize_ok : Runs (fun k => merkle_Front_Size_v1.f k) ((0, ()), ()) := Runs.step (fun k => rfl) Runs.some
theorem nnew_ok : Runs (fun k => merkle_New_v1.f k) (((), ()), ()) := Runs.step (fun k => rfl) Runs.some
/-- The law. -/
theorem MerkleNobody : chartularylaw07_MerkleNobody.Pure := by
  intro s w0 hb
  refine TP.one (TP.step (fun k => rfl) (TP.bindR (nadd_ok s) (TP.bindR nroot_ok (TP.eqT (fun _ => ?_) fun h => absurd rfl h))))
  refine TP.bindR nsize_ok (TP.eqI (fun _ => TP.bindR nnew_ok (awake_end fun _ => rfl)) fun h => absurd rfl h)
end Go.Proofs.Ytoceopdoedmgoaa.Pure
