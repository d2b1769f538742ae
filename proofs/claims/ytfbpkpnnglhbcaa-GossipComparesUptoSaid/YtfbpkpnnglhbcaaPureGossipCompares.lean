/- Plain law: GossipCompares. -/
import Derived.Test.YtfbpkpnnglhbcaaP28a
import Derived.Test.YtfbpkpnnglhbcaaPAw28
import Derived.Test.YtfbpkpnnglhbcaaESGossipCompares
namespace Go.Proofs.Ytfbpkpnnglhbcaa.Pure
open Go Go.Proofs.Ytfbpkpnnglhbcaa.E Go.Proofs.Ytfbpkpnnglhbcaa.Eng
set_option linter.unusedVariables false
set_option linter.unusedSimpArgs false

/-- The law. -/
theorem GossipCompares : chartularylaw28_GossipCompares.Pure := by
  intro x y w0 w1 hb
  refine TP.one (TP.step (fun k => rfl) (TP.dec (fun _ => awake_end fun _ => rfl) fun h1 => TP.dec (fun _ => awake_end fun _ => rfl) fun h2 => ?_))
  refine TP.step (fun k => rfl) (TP.bindR (cmp_ok x y (by omega) (by omega)) (TP.bindR (ver_ok x y (by omega) (by omega)) (TP.yes ?_ (awake_end fun _ => rfl))))
  simp [seqB_text]
end Go.Proofs.Ytfbpkpnnglhbcaa.Pure
