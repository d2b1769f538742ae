/- EventSames, in plain numbers and lists. -/
import Derived.Test.YthedgoefiffogaaPLaw14
import Derived.Test.YthedgoefiffogaaESEventSames
namespace Go.Proofs.Ythedgoefiffogaa.Pure
open Go Go.Proofs.Ythedgoefiffogaa.E Go.Proofs.Ythedgoefiffogaa.Eng
set_option linter.unusedVariables false
set_option linter.unusedSimpArgs false

theorem same_event (v w : Event) (hv : EventOk v) (hw : EventOk w) : Runs (fun k => event_Same.f k v w) ((eventB v && (eventB w && decide (cleanV v = cleanV w)), ()), ()) := by
  refine Runs.step (fun k => rfl) (Runs.bind (right_ok v hv) (Runs.and (fun bv => Runs.bind (right_ok w hw) (Runs.and (fun bw => ?_) Runs.some)) Runs.some))
  refine Runs.bind (bytes_ok v hv bv) (Runs.bind (bytes_ok w hw bw) (Runs.some' ?_))
  rw [beq_text]
  congr 2
  exact decide_eq_decide.mpr (eventL_inj hv hw bv bw)
/-- EventSames, in plain numbers and lists. -/
theorem EventSames : chartularylaw14_EventSames.Pure := by
  intro x0 x1 _ _ _
  have g0 := few_good x0
  have g1 := few_good x1
  have j0 : ∀ b : Bool, b = (eventB (fewV x0) && (eventB (fewV x1) && decide (cleanV (fewV x0) = cleanV (fewV x1)))) → Runs (fun k => chartularylaw14_EventSames.j0 k b (fewV x0).1 (fewV x0).2.1 (fewV x0).2.2.1 (fewV x0).2.2.2.1 (fewV x0).2.2.2.2.1 (fewV x0).2.2.2.2.2.1 (fewV x0).2.2.2.2.2.2.1 (fewV x1).1 (fewV x1).2.1 (fewV x1).2.2.1 (fewV x1).2.2.2.1 (fewV x1).2.2.2.2.1 (fewV x1).2.2.2.2.2.1 (fewV x1).2.2.2.2.2.2.1) ((true, ()), ()) := fun b hb => by
    refine Runs.step (fun k => rfl) (Runs.bind (same_event _ _ g0 g1) (Runs.yes ?_ (Runs.bind awake_ok Runs.some)))
    rw [hb]
    simp
  refine Runs.ex (f := fun k => chartularylaw14_EventSames.f k x0 x1) (Runs.step (fun k => rfl) (Runs.bind (few_ok x0) (Runs.bind (few_ok x1) (Runs.bind (ref_right _ g0) ?_))))
  refine Runs.cond (fun b0 => ?_) (fun b0 => ?_)
  · refine Runs.bind (ref_right _ g1) (Runs.cond (fun b1 => ?_) (fun b1 => ?_))
    · refine Runs.bind (clean_ref _) (Runs.bind (clean_ref _) (Runs.bind (same_ok _ _ (clean_ok g0)) (j0 _ ?_)))
      dsimp only at b0 b1
      rw [b0, b1]; rfl
    · dsimp only at b0 b1
      exact j0 _ (by rw [b1]; simp)
  · dsimp only at b0
    exact j0 _ (by rw [b0]; rfl)
end Go.Proofs.Ythedgoefiffogaa.Pure
