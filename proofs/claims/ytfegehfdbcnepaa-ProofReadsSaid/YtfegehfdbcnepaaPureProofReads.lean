/- ProofReads: what any bytes (up to 6000) are read as may be, and has just these bytes; or it is nothing. -/
import Derived.Test.YtfegehfdbcnepaaPL19ProofReads
import Derived.Test.YtfegehfdbcnepaaQShow2
import Derived.Test.YtfegehfdbcnepaaQShow3
namespace Go.Proofs.Ytfegehfdbcnepaa.Pure
open Go.RowKit Go.Proofs.Ytfegehfdbcnepaa.PAll Go.Proofs.YtfegehfdbcnepaaW.PrintWords Go.Proofs.YtfegehfdbcnepaaW.PrintLast Go.Proofs.Ytfegehfdbcnepaa.Q
set_option linter.unusedVariables false
set_option linter.unusedSimpArgs false
theorem preads_j0 (s : ByteArray) (hs : s.size ≤ 6000) : chartularylaw19_ProofReads.j0 8000 s = some true := by
  rw [show (8000 : Nat) = 7999 + 1 from rfl, chartularylaw19_ProofReads.j0]
  rcases read_show 7999 (by omega) s (by omega) with ⟨x, hx, h⟩ | ⟨id, cl, born, cnt, items, nodes, seq, size, path, h, hr, hb⟩
  · rw [h, bind_some']
    dsimp only
    rw [if_neg hx, same_nothing 7999 (by omega), bind_some', if_pos rfl, proof_awake 7999 (by omega), bind_some']
  · rw [h, bind_some']
    dsimp only
    rw [if_pos rfl, lright_ok 7999 (by omega) id cl born cnt items nodes seq size path hr, bind_some', if_pos rfl, lbytes_ok 7999 (by omega) id cl born cnt items nodes seq size path hr, bind_some', if_pos (by rw [hb]),
      proof_awake 7999 (by omega), bind_some']
/-- ProofReads, in plain numbers and lists. -/
theorem ProofReads : chartularylaw19_ProofReads.Pure := by
  intro s hs
  refine ⟨8000, ?_⟩
  unfold chartularylaw19_ProofReads.f
  by_cases h : (s.size : Int) > 6000
  · rw [if_pos h, if_pos (by decide), if_pos (by omega)]
    exact preads_j0 _ (by rw [ByteArray.size_extract]; omega)
  · rw [if_neg h]
    exact preads_j0 s (by omega)
end Go.Proofs.Ytfegehfdbcnepaa.Pure
