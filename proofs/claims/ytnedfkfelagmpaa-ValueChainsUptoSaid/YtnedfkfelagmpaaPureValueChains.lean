/- ValueChains: what is ahead of what is ahead of another one is ahead of it; for arguments that hold together at most 1048576 values and letters. -/
import Derived.Test.YtnedfkfelagmpaaSValueChains
import Derived.Test.YtnedfkfelagmpaaQValueD
namespace Go.Proofs.Ytnedfkfelagmpaa.Pure
open Go.RowKit Go.Proofs.Ytnedfkfelagmpaa.PAll Go.Proofs.YtnedfkfelagmpaaW.PrintWords Go.Proofs.YtnedfkfelagmpaaW.PrintLast Go.Proofs.Ytnedfkfelagmpaa.Q
set_option linter.unusedVariables false
set_option linter.unusedSimpArgs false
theorem chains_skip (k1 : Int) (f1 : Bool) (n1 b1 : Int) (t1 : ByteArray) (k2 : Int) (f2 : Bool) (n2 b2 : Int) (t2 : ByteArray) : chartularylaw04_ValueChains.j0 52 true k1 f1 n1 b1 t1 k2 f2 n2 b2 t2 = some true := by
  rw [chartularylaw04_ValueChains.j0, if_pos rfl, law_awake 51 (by omega)]; rfl
theorem wf_b {x : S24} (hw : wf24 x) : 0 ≤ x.f3 ∧ x.f3 < 18446744073709551616 := by
  have := hw
  simp only [wf24] at this
  have h := this.2.2.2.1
  simp [Lit.wf, IntKind.min, IntKind.max, IntKind.bits, IntKind.signed] at h
  omega
/-- ValueChains, in plain numbers. -/
theorem ValueChains : chartularylaw04_ValueChains.Pure := by
  intro x y z hx hy hz hb
  refine ⟨52, ?_⟩
  have a := wf_b hx
  have b := wf_b hy
  have c := wf_b hz
  unfold chartularylaw04_ValueChains.f
  rw [law_right_ok _ _ _ _ _ a.1 a.2, bind_some']
  by_cases h : rightV x.f0 x.f1 x.f2 x.f3 x.f4 = true
  · rw [if_pos h, law_right_ok _ _ _ _ _ b.1 b.2, bind_some']
    by_cases g : rightV y.f0 y.f1 y.f2 y.f3 y.f4 = true
    · rw [if_pos g, law_right_ok _ _ _ _ _ c.1 c.2, bind_some']
      by_cases r : rightV z.f0 z.f1 z.f2 z.f3 z.f4 = true
      · rw [if_pos r, compare_ok _ _ _ _ _ _ _ _ _ _ h g a.1 a.2 b.1 b.2, bind_some']
        by_cases u : cmpV x.f0 x.f1 x.f2 x.f3 x.f4 y.f0 y.f1 y.f2 y.f3 y.f4 > 0
        · rw [if_pos u]; exact chains_skip _ _ _ _ _ _ _ _ _ _
        · rw [if_neg u, compare_ok _ _ _ _ _ _ _ _ _ _ g r b.1 b.2 c.1 c.2, bind_some']
          by_cases v : cmpV y.f0 y.f1 y.f2 y.f3 y.f4 z.f0 z.f1 z.f2 z.f3 z.f4 > 0
          · rw [decide_eq_true v]; exact chains_skip _ _ _ _ _ _ _ _ _ _
          · rw [decide_eq_false v, chartularylaw04_ValueChains.j0, if_neg (by decide), compare_ok _ _ _ _ _ _ _ _ _ _ h r a.1 a.2 c.1 c.2, bind_some',
              if_pos (cmp_chain _ _ _ _ _ y.f0 y.f1 y.f2 y.f3 y.f4 _ _ _ _ _ (by omega) (by omega)), law_awake 51 (by omega)]
            rfl
      · rw [if_neg r]; exact chains_skip _ _ _ _ _ _ _ _ _ _
    · rw [if_neg g]; exact chains_skip _ _ _ _ _ _ _ _ _ _
  · rw [if_neg h]; exact chains_skip _ _ _ _ _ _ _ _ _ _
end Go.Proofs.Ytnedfkfelagmpaa.Pure
