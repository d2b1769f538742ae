/- ProofApart, in plain numbers and lists. -/
import Derived.Test.YtfegehfdbcnepaaP19c
import Derived.Test.YtfegehfdbcnepaaESProofApart
namespace Go.Proofs.Ytfegehfdbcnepaa.Pure
open Go Go.Proofs.Ytfegehfdbcnepaa.E Go.Proofs.Ytfegehfdbcnepaa.Eng
set_option linter.unusedVariables false
set_option linter.unusedSimpArgs false

/-- ProofApart, in plain numbers and lists. -/
theorem ProofApart : chartularylaw19_ProofApart.Pure := by
  intro x0 x1 _ _ _
  have g0 := few_good x0
  have g1 := few_good x1
  refine Runs.ex (f := fun k => chartularylaw19_ProofApart.f k x0 x1) (Runs.step (fun k => rfl) (Runs.bind (few_ok x0) (Runs.bind (few_ok x1) (Runs.bind (law_right _ g0) ?_))))
  cases b0 : showB (fewS x0) with
  | false => exact Runs.yes (by rfl) (Runs.bind awake_ok Runs.some)
  | true =>
    refine Runs.no (by rfl) (Runs.bind (law_right _ g1) ?_)
    cases b1 : showB (fewS x1) with
    | false => exact Runs.yes (by rfl) (Runs.bind awake_ok Runs.some)
    | true =>
      refine Runs.no (by rfl) (Runs.step (fun k => rfl) (Runs.bind (bytes_ok _ g0 b0) (Runs.bind (bytes_ok _ g1 b1) (Runs.bind (same_ok _ _ g0) (Runs.yes ?_ (Runs.bind awake_ok Runs.some))))))
      dsimp only
      rw [beq_text]
      have key : (showL (fewS x0) = showL (fewS x1)) ↔ fewS x0 = fewS x1 := by
        constructor
        · intro h
          have r0 := read_back _ g0 b0
          have r1 := read_back _ g1 b1
          rw [h] at r0
          have := r0.uniq r1
          simp only [Prod.mk.injEq] at this
          exact this.1.1
        · intro h; rw [h]
      rw [show decide (showL (fewS x0) = showL (fewS x1)) = decide (fewS x0 = fewS x1) from decide_eq_decide.mpr key]
      exact beq_self_eq_true _
end Go.Proofs.Ytfegehfdbcnepaa.Pure
