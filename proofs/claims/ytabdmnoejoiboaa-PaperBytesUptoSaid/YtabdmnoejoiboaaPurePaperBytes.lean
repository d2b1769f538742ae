/- Plain law: PaperBytes. -/
import Derived.Test.YtabdmnoejoiboaaP05g
import Derived.Test.YtabdmnoejoiboaaESPaperBytes
namespace Go.Proofs.Ytabdmnoejoiboaa.Pure
open Go Go.Proofs.Ytabdmnoejoiboaa.E Go.Proofs.Ytabdmnoejoiboaa.Eng
set_option linter.unusedVariables false
set_option linter.unusedSimpArgs false

/-- The law. -/
theorem PaperBytes : chartularylaw05_PaperBytes.Pure := by
  intro p w0 hb
  refine TP.one (TP.step (fun k => rfl) (TP.bind (few_wf w0) fun v hp => ?_))
  obtain ⟨⟨p, ⟨⟩⟩, ⟨⟩⟩ := v
  obtain ⟨hp, hv⟩ := hp
  have hp : POk p := hp
  have hv : ∀ f ∈ p.2.2.1, VOk f.2.1 := hv
  have hp1 := hp.2.1
  refine TP.bind (pbytes_ok p hp hv) fun r hr => TP.bind (lcheck_ok p hp) fun c hc => ?_
  obtain ⟨r, ⟨⟩⟩ := r
  obtain ⟨⟨c, ⟨⟩⟩, ⟨⟩⟩ := c
  have hc : c = checkV p := hc
  subst hc
  rcases hr with ⟨c1, e1⟩ | ⟨c1, e1⟩
  · have e1 : r = _ := e1
    subst e1
    refine TP.neI (fun _ => TP.eqT (fun _ => TP.bind (lcheck_ok p hp) fun c hc => TP.eqI (fun _ => awake_end fun _ => rfl) fun h => absurd hc.symm h) fun h => absurd rfl h) fun h => absurd h c1
  · have e1 : r = _ := e1
    subst e1
    have hm := (check_iff p).1 c1
    refine TP.neI (fun h => absurd c1 h) fun _ => TP.bind (pread_again p hp hv c1) fun r6 h6 => TP.eqI (fun _ => ?_) fun h => absurd rfl h
    obtain ⟨r6, ⟨⟩⟩ := r6
    have h6 : r6 = _ := h6
    subst h6
    refine TP.bind (ltidy_ok p hp1) fun v hv7 => ?_
    obtain ⟨⟨v, ⟨⟩⟩, ⟨⟩⟩ := v
    have hv7 : v = tidyV p := hv7
    subst hv7
    refine TP.bindR (lbytes_ok (tidyV p) (may_right hm hv)) (TP.eqT (fun _ => TP.eqI (fun _ => TP.bind (ltidy_ok p hp1) fun v hv8 => ?_) fun h => absurd rfl h) fun h => absurd rfl h)
    obtain ⟨⟨v, ⟨⟩⟩, ⟨⟩⟩ := v
    have hv8 : v = tidyV p := hv8
    subst hv8
    exact TP.bind (same_ok (tidyV p) (tidyV p) (by show (tidyF p.2.2.1).length ≤ 1000; rw [tidyF_len]; omega)) fun v4 h4 => TP.yes (h4.2 rfl) (awake_end fun _ => rfl)
end Go.Proofs.Ytabdmnoejoiboaa.Pure
