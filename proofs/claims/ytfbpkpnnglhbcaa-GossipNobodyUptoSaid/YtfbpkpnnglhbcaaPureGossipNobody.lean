/- Plain law: GossipNobody. -/
import Derived.Test.YtfbpkpnnglhbcaaPAw28
import Derived.Test.YtfbpkpnnglhbcaaESGossipNobody
namespace Go.Proofs.Ytfbpkpnnglhbcaa.Pure
open Go Go.Proofs.Ytfbpkpnnglhbcaa.E Go.Proofs.Ytfbpkpnnglhbcaa.Eng
set_option linter.unusedVariables false
set_option linter.unusedSimpArgs false

theorem naud_ok (i : Int) : TP (fun k => gossip_Ring_Auditor_v2.f k i) (fun _ => True) := TP.step (fun k => rfl) (TP.some trivial)
theorem ntell_ok (i : Int) (g : ByteArray) : TP (fun k => gossip_Ring_Tell_v2.f k i g) (fun v => v.1 = (7, ())) := TP.step (fun k => rfl) (TP.bind (naud_ok i) fun _ _ => TP.some rfl)
theorem nhear_ok (i : Int) : TP (fun k => gossip_Ring_Hear_v1.f k i i) (fun v => v.1.2 = (7, ())) := TP.step (fun k => rfl) (TP.bind (naud_ok i) fun _ _ => TP.bind (naud_ok i) fun _ _ => TP.some rfl)
theorem njoin_ok (i : Int) (p : List ByteArray) : TP (fun k => gossip_Ring_Join_v0.f k i i p) (fun v => v.1 = (7, ())) := TP.step (fun k => rfl) (TP.bind (naud_ok i) fun _ _ => TP.bind (naud_ok i) fun _ _ => TP.some rfl)
theorem nforks_ok : TP (fun k => gossip_Ring_Forks_v1.f k) (fun v => v.1.1.length = 0) := TP.step (fun k => rfl) (TP.some rfl)
theorem nagree_ok : TP (fun k => gossip_Ring_Agree_v1.f k) (fun v => v.1.1 = false) := TP.step (fun k => rfl) (TP.some rfl)
/-- The law. -/
theorem GossipNobody : chartularylaw28_GossipNobody.Pure := by
  intro i g w0 w1 hb
  refine TP.one (TP.step (fun k => rfl) (TP.bind (nhear_ok i) fun r1 h1 => TP.bind (naud_ok i) fun _ _ => TP.bind (ntell_ok i g) fun r3 h3 => TP.eqI (fun _ => TP.eqI (fun _ => ?_) fun h => absurd (by rw [h1]) h) fun h => absurd (by rw [h3]) h))
  refine TP.bind (njoin_ok i []) fun r4 h4 => TP.eqI (fun _ => TP.bind nforks_ok fun r5 h5 => TP.eqI (fun _ => TP.bind nagree_ok fun r6 h6 => TP.yes (by rw [h6]; rfl) (awake_end fun _ => rfl)) fun h => absurd (by rw [h5]; rfl) h) fun h => absurd (by rw [h4]) h
end Go.Proofs.Ytfbpkpnnglhbcaa.Pure
