/- EventBytes, in plain numbers and lists. -/
import Derived.Test.YthedgoefiffogaaPLaw14
import Derived.Test.YthedgoefiffogaaESEventBytes
namespace Go.Proofs.Ythedgoefiffogaa.Pure
open Go Go.Proofs.Ythedgoefiffogaa.E Go.Proofs.Ythedgoefiffogaa.Eng
set_option linter.unusedVariables false
set_option linter.unusedSimpArgs false

/-- EventBytes, in plain numbers and lists. -/
theorem EventBytes : chartularylaw14_EventBytes.Pure := by
  intro x0 _ _
  have g0 := few_good x0
  refine Runs.ex (f := fun k => chartularylaw14_EventBytes.f k x0) (Runs.step (fun k => rfl) (Runs.bind (few_ok x0) ?_))
  cases hb : eventB (fewV x0) with
  | false =>
    have hr := ref_right _ g0
    rw [hb] at hr
    exact Runs.bind (bytes_no _ g0 hb) (Runs.bind hr (Runs.yes (by rfl) (Runs.yes (by dsimp only; rw [beq_self_eq_true]) (Runs.bind awake_ok Runs.some))))
  | true =>
    have hr := ref_right _ g0
    rw [hb] at hr
    have hrd := read_back (v := fewV x0) g0 hb (by have := event_size hb; omega)
    refine Runs.bind (bytes_ok _ g0 hb) (Runs.bind hr (Runs.no (by rfl) (Runs.bind hrd (Runs.bind (ref_bytes _ hb) (Runs.yes (by dsimp only; rw [beq_self_eq_true]) (Runs.yes (by rfl) (Runs.bind (clean_ref _) (Runs.bind (same_ok _ _ (clean_ok g0)) (Runs.yes (by simp) (Runs.bind awake_ok Runs.some))))))))))
end Go.Proofs.Ythedgoefiffogaa.Pure
