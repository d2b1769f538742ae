/- ProofBytes, in plain numbers and lists. -/
import Derived.Test.YtfegehfdbcnepaaP19c
import Derived.Test.YtfegehfdbcnepaaESProofBytes
namespace Go.Proofs.Ytfegehfdbcnepaa.Pure
open Go Go.Proofs.Ytfegehfdbcnepaa.E Go.Proofs.Ytfegehfdbcnepaa.Eng
set_option linter.unusedVariables false
set_option linter.unusedSimpArgs false

/-- ProofBytes, in plain numbers and lists. -/
theorem ProofBytes : chartularylaw19_ProofBytes.Pure := by
  intro x0 _ _
  have g0 := few_good x0
  refine Runs.ex (f := fun k => chartularylaw19_ProofBytes.f k x0) (Runs.step (fun k => rfl) (Runs.bind (few_ok x0) ?_))
  have hr := right_ok _ g0
  have hl := law_right _ g0
  cases hb : showB (fewS x0) with
  | false =>
    rw [hb] at hr hl
    exact Runs.bind (bytes_no _ g0 hb) (Runs.bind hr (Runs.bind hl (Runs.no (by rfl) (Runs.bind hl (Runs.yes (by rfl) (Runs.yes (by dsimp only; rw [beq_self_eq_true]) (Runs.bind awake_ok Runs.some)))))))
  | true =>
    rw [hb] at hr hl
    exact Runs.bind (bytes_ok _ g0 hb) (Runs.bind hr (Runs.bind hl (Runs.no (by rfl) (Runs.bind hl (Runs.no (by rfl) (Runs.bind (read_back _ g0 hb) (Runs.bind (law_bytes _ hb) (Runs.yes (by dsimp only; rw [beq_self_eq_true]) (Runs.yes (by rfl) (Runs.bind (same_ok _ _ g0) (Runs.yes (by simp) (Runs.bind awake_ok Runs.some))))))))))))
end Go.Proofs.Ytfegehfdbcnepaa.Pure
