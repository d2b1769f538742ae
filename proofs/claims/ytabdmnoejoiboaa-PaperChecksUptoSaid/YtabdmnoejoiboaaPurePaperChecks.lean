/- Plain law: PaperChecks. -/
import Derived.Test.YtabdmnoejoiboaaP05c
import Derived.Test.YtabdmnoejoiboaaPAw05
import Derived.Test.YtabdmnoejoiboaaESPaperChecks
namespace Go.Proofs.Ytabdmnoejoiboaa.Pure
open Go Go.Proofs.Ytabdmnoejoiboaa.E Go.Proofs.Ytabdmnoejoiboaa.Eng
set_option linter.unusedVariables false
set_option linter.unusedSimpArgs false

/-- The law. -/
theorem PaperChecks : chartularylaw05_PaperChecks.Pure := by
  intro p w0 hb
  refine TP.one (TP.step (fun k => rfl) (TP.bind (few_ok p) fun v1 hp => ?_))
  obtain ⟨⟨p, ⟨⟩⟩, ⟨⟩⟩ := v1
  have hp : POk p := hp
  refine TP.bind (tidy_ok p hp.2.1) fun v2 h2 => TP.bind (ltidy_ok p hp.2.1) fun v3 h3 => ?_
  obtain ⟨⟨t, ⟨⟩⟩, ⟨⟩⟩ := v2
  obtain ⟨⟨t', ⟨⟩⟩, ⟨⟩⟩ := v3
  have h2 : t = tidyV p := h2
  have h3 : t' = tidyV p := h3
  subst h2; subst h3
  refine TP.bind (same_ok (tidyV p) (tidyV p) (by show (tidyF p.2.2.1).length ≤ 1000; rw [tidyF_len]; have := hp.2.1; omega)) fun v4 h4 => TP.yes (h4.2 rfl) ?_
  refine TP.bind (check_ok p hp) fun v5 h5 => TP.bind (lcheck_ok p hp) fun v6 h6 => TP.eqI (fun _ => awake_end fun _ => rfl) fun h => absurd (h5.trans h6.symm) h
end Go.Proofs.Ytabdmnoejoiboaa.Pure
