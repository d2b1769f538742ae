/- Plain law: AskPrints. -/
import Derived.Test.YtpidgdelfaidoaaP26p
import Derived.Test.YtpidgdelfaidoaaPAw26
import Derived.Test.YtpidgdelfaidoaaESAskPrints
namespace Go.Proofs.Ytpidgdelfaidoaa.Pure
open Go Go.Proofs.Ytpidgdelfaidoaa.E Go.Proofs.Ytpidgdelfaidoaa.Eng
set_option linter.unusedVariables false
set_option linter.unusedSimpArgs false
theorem AskPrints : chartularylaw26_AskPrints.Pure := by
 intro q w hb
 refine TP.one (TP.step (fun k => rfl) (TP.bind (few26_ok q (qry_qr w)) fun v hv => ?_))
 obtain ⟨⟨q, ⟨⟩⟩, ⟨⟩⟩ := v
 have hv : QOk q := hv
 by_cases hc : checkA q = 0
 ·have hf := check_form q hv hc
  have hn := hf.n
  have hs : (saidQ q).1.length ≤ 1000 := by unfold saidQ; rw [List.length_map]; omega
  have hr := read_print q hv hf [] [] (by simp) (fun _ _ h => h) (.nil fun _ _ e => nomatch e) (fun _ _ e => nomatch e)
  rw [List.nil_append, List.append_nil] at hr
  refine TP.bindR (print_ok q hv hv.qry hc) (TP.bindR (fcheck_ok q hv.qry) (TP.no (by rw [hc]; rfl) (TP.bindR hr (TP.bindR (printed_ok q hv) (TP.eqT (fun _ => ?_) fun h => absurd rfl h)))))
  exact TP.yes rfl (TP.yes rfl (TP.bindR (said_ok q (by omega)) (TP.bindR (same_ok (saidQ q) hs) (TP.yes rfl (awake_end fun _ => rfl)))))
 ·refine TP.bindR (print_no q hv.qry hc) (TP.bindR (fcheck_ok q hv.qry) (TP.yes (by simpa using hc) (TP.eqT (fun _ => awake_end fun _ => rfl) fun h => absurd rfl h)))
end Go.Proofs.Ytpidgdelfaidoaa.Pure
