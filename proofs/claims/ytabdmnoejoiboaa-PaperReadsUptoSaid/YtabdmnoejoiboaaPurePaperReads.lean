/- Plain law: PaperReads. -/
import Derived.Test.YtabdmnoejoiboaaP05g
import Derived.Test.YtabdmnoejoiboaaESPaperReads
namespace Go.Proofs.Ytabdmnoejoiboaa.Pure
open Go Go.Proofs.Ytabdmnoejoiboaa.E Go.Proofs.Ytabdmnoejoiboaa.Eng
set_option linter.unusedVariables false
set_option linter.unusedSimpArgs false

theorem reads_j0 (s : ByteArray) (hs : s.size ≤ 30000000) : TP (fun k => chartularylaw05_PaperReads.j0 k s) (fun v => v.1.1 = true) := by
  obtain ⟨v, hr, hv⟩ := pread_ok2 s hs
  refine TP.step (fun k => rfl) (TP.bindR hr ?_)
  obtain ⟨⟨p, e, ⟨⟩⟩, ⟨⟩⟩ := v
  rcases hv with ⟨h1, h2⟩ | ⟨h1, hp, hv, hc, hb⟩
  · have h2 : p = ((ByteArray.empty, 0, [], ()) : Pap) := h2
    subst h2
    exact TP.neI (fun _ => TP.bind (same_ok ((ByteArray.empty, 0, [], ()) : Pap) ((ByteArray.empty, 0, [], ()) : Pap) (by decide)) fun v4 h4 => TP.yes (h4.2 rfl) (awake_end fun _ => rfl)) fun h => absurd h h1
  · have h1 : e = 0 := h1
    have hp : POk p := hp
    have hv : ∀ f ∈ p.2.2.1, VOk f.2.1 := hv
    have hc : checkV p = 0 := hc
    have hb : papB (tidyV p) = s := hb
    subst h1
    have hp1 : p.2.2.1.length ≤ 30 := hp.2.1
    have hm := (check_iff p).1 hc
    have ht : tidyV p = p := by
      obtain ⟨w, hw, hw'⟩ := pread_again p hp hv hc
      rw [hb] at hw
      have := Runs.uniq hr hw
      rw [← this] at hw'
      have hw' : ((p, 0, ()) : Pap × Int × Unit) = (tidyV p, 0, ()) := hw'
      injection hw' with h _
      exact h.symm
    have hpr : PRight p := by have := may_right hm hv; rw [ht] at this; exact this
    refine TP.neI (fun h => absurd rfl h) fun _ => TP.bind (lcheck_ok p hp) fun c h4 => TP.eqI (fun _ => TP.bind (ltidy_ok p hp1) fun v h5 => ?_) fun h => absurd (by rw [← hc]; exact h4) h
    obtain ⟨⟨v, ⟨⟩⟩, ⟨⟩⟩ := v
    have h5 : v = tidyV p := h5
    rw [ht] at h5
    subst h5
    refine TP.bind (same_ok v v (by omega)) fun v6 h6 => TP.yes (h6.2 rfl) (TP.bindR (lbytes_ok v hpr) (TP.eqT (fun _ => awake_end fun _ => rfl) fun h => absurd ?_ h))
    rw [ht] at hb; exact hb
/-- The law. -/
theorem PaperReads : chartularylaw05_PaperReads.Pure := by
  intro s w0 hb
  have hb : s.size + 1 ≤ 1048576 := hb
  refine TP.one (TP.step (fun k => rfl) (TP.dec (fun h => ?_) fun h => reads_j0 s (by omega)))
  refine TP.ck (by simp only [Bool.and_eq_true, decide_eq_true_eq]; omega) (reads_j0 _ ?_)
  rw [ByteArray.size_extract]; omega
end Go.Proofs.Ytabdmnoejoiboaa.Pure
