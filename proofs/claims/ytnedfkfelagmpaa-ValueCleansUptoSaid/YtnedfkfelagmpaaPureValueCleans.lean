/- ValueCleans: any value made clean, and which may be; for arguments that hold together at most 1048576 values and letters. -/
import Derived.Test.YtnedfkfelagmpaaSValueCleans
import Derived.Test.YtnedfkfelagmpaaQValueB
namespace Go.Proofs.Ytnedfkfelagmpaa.Pure
open Go.RowKit Go.Proofs.Ytnedfkfelagmpaa.PAll Go.Proofs.YtnedfkfelagmpaaW.PrintWords Go.Proofs.YtnedfkfelagmpaaW.PrintLast Go.Proofs.Ytnedfkfelagmpaa.Q
set_option linter.unusedVariables false
set_option linter.unusedSimpArgs false
theorem cleans_j0 (k : Int) (f : Bool) (n b : Int) (t : ByteArray) (h0 : 0 ≤ b) (h1 : b < 18446744073709551616) : chartularylaw04_ValueCleans.j0 51 k f n b t = some true := by
  rw [chartularylaw04_ValueCleans.j0, clean_ok k f n b t h0 h1, bind_some', law_clean_ok k f n b t h0 h1, bind_some', right_ok k f n b t h0 h1, law_right_ok k f n b t h0 h1]
  generalize cleanV k f n b t = v
  rw [if_pos (by exact sameV_self v.1 v.2.1 v.2.2.1 v.2.2.2.1 v.2.2.2.2), bind_some', bind_some', if_pos (by simp), law_awake 50 (by omega)]
  rfl
/-- ValueCleans, in plain numbers. -/
theorem ValueCleans : chartularylaw04_ValueCleans.Pure := by
  intro x hw hb
  refine ⟨51, ?_⟩
  have h3 : 0 ≤ x.f3 ∧ x.f3 < 18446744073709551616 := by
    have := hw
    simp only [wf24] at this
    have h := this.2.2.2.1
    simp [Lit.wf, IntKind.min, IntKind.max, IntKind.bits, IntKind.signed] at h
    omega
  unfold chartularylaw04_ValueCleans.f
  by_cases h : (x.f4.size : Int) > 300
  · rw [if_pos h, if_pos (by decide), if_pos (by omega)]
    exact cleans_j0 _ _ _ _ _ h3.1 h3.2
  · rw [if_neg h]
    exact cleans_j0 _ _ _ _ _ h3.1 h3.2
end Go.Proofs.Ytnedfkfelagmpaa.Pure
