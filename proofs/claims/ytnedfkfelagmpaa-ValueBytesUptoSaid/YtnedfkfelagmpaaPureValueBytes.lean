/- ValueBytes: any value's bytes, and that they are read again; for arguments that hold together at most 1048576 values and letters. -/
import Derived.Test.YtnedfkfelagmpaaSValueBytes
import Derived.Test.YtnedfkfelagmpaaQValueC
namespace Go.Proofs.Ytnedfkfelagmpaa.Pure
open Go.RowKit Go.Proofs.Ytnedfkfelagmpaa.PAll Go.Proofs.YtnedfkfelagmpaaW.PrintWords Go.Proofs.YtnedfkfelagmpaaW.PrintLast Go.Proofs.Ytnedfkfelagmpaa.Q
set_option linter.unusedVariables false
set_option linter.unusedSimpArgs false
theorem bytes_j0 (k : Int) (f : Bool) (n b : Int) (t : ByteArray) (h0 : 0 ≤ b) (h1 : b < 18446744073709551616) (n0 : -9223372036854775808 ≤ n) (n1 : n ≤ 9223372036854775807) : chartularylaw04_ValueBytes.j0 51 k f n b t = some true := by
  rw [chartularylaw04_ValueBytes.j0, valbytes_ok 50 (by omega) k f n b t h0 h1, bind_some', law_right_ok k f n b t h0 h1, bind_some']
  by_cases h : rightV k f n b t = true
  · rw [if_pos h, if_pos h]
    have ht := (rightV_facts h).2.2.1
    have hz := valL_size k f n b t ht
    rw [read_val 50 (by omega) k f n b t h h0 h1 n0 n1 _ (by omega) rfl, bind_some', lbytes_ok 50 (by omega) k f n b t h h0 h1, bind_some', if_pos rfl]
    dsimp only
    rw [if_pos (by exact sameV_self k f n b t), if_pos rfl, law_awake 50 (by omega)]
    rfl
  · rw [if_neg h, if_neg h, if_pos (by rw [toList_eq]; rfl), law_awake 50 (by omega)]
    rfl
/-- ValueBytes, in plain numbers. -/
theorem ValueBytes : chartularylaw04_ValueBytes.Pure := by
  intro x hw hb
  refine ⟨51, ?_⟩
  have h3 : (0 ≤ x.f3 ∧ x.f3 < 18446744073709551616) ∧ -9223372036854775808 ≤ x.f2 ∧ x.f2 ≤ 9223372036854775807 := by
    have := hw
    simp only [wf24] at this
    have h := this.2.2.2.1
    have g := this.2.2.1
    simp [Lit.wf, IntKind.min, IntKind.max, IntKind.bits, IntKind.signed] at h g
    omega
  unfold chartularylaw04_ValueBytes.f
  by_cases h : (x.f4.size : Int) > 300
  · rw [if_pos h, if_pos (by decide), if_pos (by omega)]
    exact bytes_j0 _ _ _ _ _ h3.1.1 h3.1.2 h3.2.1 h3.2.2
  · rw [if_neg h]
    exact bytes_j0 _ _ _ _ _ h3.1.1 h3.1.2 h3.2.1 h3.2.2
end Go.Proofs.Ytnedfkfelagmpaa.Pure
