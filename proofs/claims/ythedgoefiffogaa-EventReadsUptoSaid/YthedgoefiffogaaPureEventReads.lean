/- EventReads, in plain numbers and lists. -/
import Derived.Test.YthedgoefiffogaaPLaw14
import Derived.Test.YthedgoefiffogaaESEventReads
namespace Go.Proofs.Ythedgoefiffogaa.Pure
open Go Go.Proofs.Ythedgoefiffogaa.E Go.Proofs.Ythedgoefiffogaa.Eng
set_option linter.unusedVariables false
set_option linter.unusedSimpArgs false

theorem noEvent_ok : EventOk noEvent := ⟨emptyE_ok, empty_z, empty_z⟩
/-- EventReads, in plain numbers and lists. -/
theorem EventReads : chartularylaw14_EventReads.Pure := by
  intro x0 _ _
  have main : ∀ s : ByteArray, s.size ≤ 30000000 → Runs (fun k => chartularylaw14_EventReads.j0 k s) ((true, ()), ()) := fun s hs => by
    obtain ⟨v, e, ⟨h1, h2⟩, hr⟩ := read_any hs
    refine Runs.step (fun k => rfl) (Runs.bind hr (Runs.cond (fun he => ?_) (fun he => ?_)))
    · have he : e ≠ 0 := by simpa using he
      rw [h1 he]
      refine Runs.bind (same_ok noEvent noEvent noEvent_ok) (Runs.yes (by simp) (Runs.bind awake_ok Runs.some))
    · have he : e = 0 := by simpa using he
      obtain ⟨hb, hok, hc, hl⟩ := h2 he
      have hrr := ref_right _ hok
      rw [hb] at hrr
      have hcl := clean_ref v
      rw [hc] at hcl
      have hbs := ref_bytes _ hb
      rw [hl] at hbs
      exact Runs.bind hrr (Runs.yes (by rfl) (Runs.bind hcl (Runs.bind (same_ok v v hok) (Runs.yes (by simp) (Runs.bind hbs (Runs.yes (by dsimp only; rw [beq_self_eq_true]) (Runs.bind awake_ok Runs.some)))))))
  refine Runs.ex (f := fun k => chartularylaw14_EventReads.f k x0) (Runs.step (fun k => rfl) (Runs.dec (fun h => Runs.ck ?_ (main _ ?_)) (fun h => main _ (by omega))))
  · simp; omega
  · rw [ByteArray.size_extract]
    show min (Int.toNat 6000) x0.size - Int.toNat 0 ≤ 30000000
    omega
end Go.Proofs.Ythedgoefiffogaa.Pure
