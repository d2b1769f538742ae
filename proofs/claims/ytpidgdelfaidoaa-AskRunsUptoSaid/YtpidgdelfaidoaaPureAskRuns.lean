/- Plain law: AskRuns. -/
import Derived.Test.YtpidgdelfaidoaaP26q
import Derived.Test.YtpidgdelfaidoaaESAskRuns
namespace Go.Proofs.Ytpidgdelfaidoaa.Pure
open Go Go.Proofs.Ytpidgdelfaidoaa.E Go.Proofs.Ytpidgdelfaidoaa.Eng
set_option linter.unusedVariables false
set_option linter.unusedSimpArgs false
theorem AskRuns : chartularylaw26_AskRuns.Pure := by
 intro q l w _ hb
 refine TP.one (TP.step (fun k => rfl) (TP.bind (few26_ok q (qry_qr w)) fun v hv => ?_))
 obtain ⟨⟨q, ⟨⟩⟩, ⟨⟩⟩ := v
 exact aruns_l0 q hv l 20 0 rfl (by omega) (Nat.zero_le _) [] rfl fun p hp => nomatch hp
end Go.Proofs.Ytpidgdelfaidoaa.Pure
