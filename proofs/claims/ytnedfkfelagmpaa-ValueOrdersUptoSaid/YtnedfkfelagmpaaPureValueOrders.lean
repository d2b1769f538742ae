/- ValueOrders: how any two values that may be stand in order, and that they are one just where they stand at one place; for arguments that hold together at most 1048576 values and letters. -/
import Derived.Test.YtnedfkfelagmpaaSValueOrders
import Derived.Test.YtnedfkfelagmpaaQValueD
namespace Go.Proofs.Ytnedfkfelagmpaa.Pure
open Go.RowKit Go.Proofs.Ytnedfkfelagmpaa.PAll Go.Proofs.YtnedfkfelagmpaaW.PrintWords Go.Proofs.YtnedfkfelagmpaaW.PrintLast Go.Proofs.Ytnedfkfelagmpaa.Q
set_option linter.unusedVariables false
set_option linter.unusedSimpArgs false
theorem cmpV_range (k1 : Int) (f1 : Bool) (n1 b1 : Int) (t1 : ByteArray) (k2 : Int) (f2 : Bool) (n2 b2 : Int) (t2 : ByteArray) : -1 ≤ cmpV k1 f1 n1 b1 t1 k2 f2 n2 b2 t2 ∧ cmpV k1 f1 n1 b1 t1 k2 f2 n2 b2 t2 ≤ 1 := by
  have hs : ∀ l m : Bool, -1 ≤ signV l m ∧ signV l m ≤ 1 := by intro l m; cases l <;> cases m <;> decide
  unfold cmpV
  repeat' split
  all_goals first | exact hs _ _ | (rw [cb_less]; exact hs _ _) | decide
theorem orders_j0 (k1 : Int) (f1 : Bool) (n1 b1 : Int) (t1 : ByteArray) (k2 : Int) (f2 : Bool) (n2 b2 : Int) (t2 : ByteArray) (h1 : rightV k1 f1 n1 b1 t1 = true) (h2 : rightV k2 f2 n2 b2 t2 = true)
    (p0 : 0 ≤ b1) (p1 : b1 < 18446744073709551616) (q0 : 0 ≤ b2) (q1 : b2 < 18446744073709551616) (r0 : -9223372036854775808 ≤ n1) (r1 : n1 ≤ 9223372036854775807) (s0 : -9223372036854775808 ≤ n2) (s1 : n2 ≤ 9223372036854775807) :
    chartularylaw04_ValueOrders.j0 52 false k1 f1 n1 b1 t1 k2 f2 n2 b2 t2 = some true := by
  have hz := cmp_zero h1 h2 p0 p1 q0 q1
  have hr := cmpV_range k1 f1 n1 b1 t1 k2 f2 n2 b2 t2
  have hinj := valL_inj h1 h2 p0 p1 q0 q1 r0 r1 s0 s1
  rw [chartularylaw04_ValueOrders.j0, if_neg (by decide), compare_ok k1 f1 n1 b1 t1 k2 f2 n2 b2 t2 h1 h2 p0 p1 q0 q1, bind_some', order_ok 50 k1 f1 n1 b1 t1 k2 f2 n2 b2 t2 h1 h2 p0 p1 q0 q1, bind_some', if_pos rfl,
    compare_ok k2 f2 n2 b2 t2 k1 f1 n1 b1 t1 h2 h1 q0 q1 p0 p1, bind_some', cmp_neg k1 f1 n1 b1 t1 k2 f2 n2 b2 t2]
  generalize cmpV k1 f1 n1 b1 t1 k2 f2 n2 b2 t2 = c at *
  rw [if_pos (by unfold wrap64; omega)]
  have e1 : ((c == 0) == sameV k1 f1 n1 b1 t1 (k2, f2, n2, b2, t2)) = true := by
    by_cases hc : c = 0
    · rw [(sameV_iff ..).2 (hz.1 hc), hc]; rfl
    · rw [Bool.eq_false_iff.2 (fun e => hc (hz.2 ((sameV_iff ..).1 e))), beq_eq_false_iff_ne.2 hc]; rfl
  rw [if_pos (by exact e1), lbytes_ok 51 (by omega) k1 f1 n1 b1 t1 h1 p0 p1, bind_some', lbytes_ok 51 (by omega) k2 f2 n2 b2 t2 h2 q0 q1, bind_some', if_pos ?_, law_awake 51 (by omega)]
  · rfl
  · rw [toList_eq, toList_eq]
    by_cases hc : c = 0
    · have := hz.1 hc
      injection this with a1 this; injection this with a2 this; injection this with a3 this; injection this with a4 a5
      subst a1 a2 a3 a4 a5
      rw [hc, beq_self_eq_true, beq_self_eq_true]; rfl
    · have : ¬ L (valL k1 f1 n1 b1 t1) = L (valL k2 f2 n2 b2 t2) := fun e => hc (hz.2 (hinj (L_inj e)))
      rw [beq_eq_false_iff_ne.2 hc, beq_eq_false_iff_ne.2 this]; rfl
theorem orders_skip (k1 : Int) (f1 : Bool) (n1 b1 : Int) (t1 : ByteArray) (k2 : Int) (f2 : Bool) (n2 b2 : Int) (t2 : ByteArray) : chartularylaw04_ValueOrders.j0 52 true k1 f1 n1 b1 t1 k2 f2 n2 b2 t2 = some true := by
  rw [chartularylaw04_ValueOrders.j0, if_pos rfl, law_awake 51 (by omega)]; rfl
theorem wf_b {x : S24} (hw : wf24 x) : (0 ≤ x.f3 ∧ x.f3 < 18446744073709551616) ∧ -9223372036854775808 ≤ x.f2 ∧ x.f2 ≤ 9223372036854775807 := by
  have := hw
  simp only [wf24] at this
  have h := this.2.2.2.1
  have g := this.2.2.1
  simp [Lit.wf, IntKind.min, IntKind.max, IntKind.bits, IntKind.signed] at h g
  omega
/-- ValueOrders, in plain numbers. -/
theorem ValueOrders : chartularylaw04_ValueOrders.Pure := by
  intro x y hx hy hb
  refine ⟨52, ?_⟩
  have a := wf_b hx
  have b := wf_b hy
  unfold chartularylaw04_ValueOrders.f
  rw [law_right_ok _ _ _ _ _ a.1.1 a.1.2, bind_some']
  by_cases h : rightV x.f0 x.f1 x.f2 x.f3 x.f4 = true
  · rw [if_pos h, law_right_ok _ _ _ _ _ b.1.1 b.1.2, bind_some']
    by_cases g : rightV y.f0 y.f1 y.f2 y.f3 y.f4 = true
    · rw [g]
      exact orders_j0 _ _ _ _ _ _ _ _ _ _ h g a.1.1 a.1.2 b.1.1 b.1.2 a.2.1 a.2.2 b.2.1 b.2.2
    · rw [Bool.eq_false_iff.2 g]
      exact orders_skip _ _ _ _ _ _ _ _ _ _
  · rw [if_neg h]
    exact orders_skip _ _ _ _ _ _ _ _ _ _
end Go.Proofs.Ytnedfkfelagmpaa.Pure
