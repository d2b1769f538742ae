/- ValueReads: what any bytes are read as has just these bytes, and no value that may be has others; for arguments that hold together at most 1048576 values and letters. -/
import Derived.Test.YtnedfkfelagmpaaSValueReads
import Derived.Test.YtnedfkfelagmpaaQValueC
namespace Go.Proofs.Ytnedfkfelagmpaa.Pure
open Go.RowKit Go.Proofs.Ytnedfkfelagmpaa.PAll Go.Proofs.YtnedfkfelagmpaaW.PrintWords Go.Proofs.YtnedfkfelagmpaaW.PrintLast Go.Proofs.Ytnedfkfelagmpaa.Q
set_option linter.unusedVariables false
set_option linter.unusedSimpArgs false
theorem reads_j0 (s : ByteArray) (hs : s.size ≤ 300) (k : Int) (f : Bool) (n b : Int) (t : ByteArray) (h0 : 0 ≤ b) (h1 : b < 18446744073709551616) (n0 : -9223372036854775808 ≤ n) (n1 : n ≤ 9223372036854775807) :
    chartularylaw04_ValueReads.j0 51 s k f n b t = some true := by
  obtain ⟨k', f', n', b', t', e, hread, hb, hne, hok⟩ := read_any 50 (by omega) s (by omega)
  rw [chartularylaw04_ValueReads.j0, hread, bind_some']
  dsimp only
  by_cases he : e = 0
  · obtain ⟨hr, hv⟩ := hok he
    rw [if_pos he, law_right_ok k' f' n' b' t' hb.1 hb.2, bind_some', if_pos hr, lbytes_ok 50 (by omega) k' f' n' b' t' hr hb.1 hb.2, bind_some', hv, if_pos rfl, law_awake 50 (by omega)]
    rfl
  · obtain ⟨rfl, rfl, rfl, rfl, rfl⟩ := hne he
    rw [if_neg he, if_pos (by rw [toList_eq]; rfl), law_right_ok k f n b t h0 h1, bind_some']
    by_cases h : rightV k f n b t = true
    · rw [if_pos h, lbytes_ok 50 (by omega) k f n b t h h0 h1, bind_some']
      have hneq : ¬ (valL k f n b t).toList = s.toList := by
        intro hq
        rw [toList_eq, toList_eq] at hq
        have := L_inj hq
        have hr := read_val 50 (by omega) k f n b t h h0 h1 n0 n1 s (by omega) this.symm
        rw [hread] at hr
        injection hr with hr
        injection hr with _ hr; injection hr with _ hr; injection hr with _ hr; injection hr with _ hr; injection hr with _ hr
        exact he hr
      rw [if_neg hneq, law_awake 50 (by omega)]
      rfl
    · rw [if_neg h, law_awake 50 (by omega)]
      rfl
/-- ValueReads, in plain numbers. -/
theorem ValueReads : chartularylaw04_ValueReads.Pure := by
  intro s x hw hb
  refine ⟨51, ?_⟩
  have h3 : (0 ≤ x.f3 ∧ x.f3 < 18446744073709551616) ∧ -9223372036854775808 ≤ x.f2 ∧ x.f2 ≤ 9223372036854775807 := by
    have := hw
    simp only [wf24] at this
    have h := this.2.2.2.1
    have g := this.2.2.1
    simp [Lit.wf, IntKind.min, IntKind.max, IntKind.bits, IntKind.signed] at h g
    omega
  unfold chartularylaw04_ValueReads.f
  by_cases h : (s.size : Int) > 300
  · rw [if_pos h, if_pos (by decide), if_pos (by omega)]
    exact reads_j0 _ (by rw [ByteArray.size_extract]; omega) _ _ _ _ _ h3.1.1 h3.1.2 h3.2.1 h3.2.2
  · rw [if_neg h]
    exact reads_j0 _ (by omega) _ _ _ _ _ h3.1.1 h3.1.2 h3.2.1 h3.2.2
end Go.Proofs.Ytnedfkfelagmpaa.Pure
