/- Plain law: FindChecks. -/
import Derived.Test.YtcjiipbppkdkaaaP17b
import Derived.Test.YtcjiipbppkdkaaaPAw17
import Derived.Test.YtcjiipbppkdkaaaESFindChecks
namespace Go.Proofs.Ytcjiipbppkdkaaa.Pure
open Go Go.Proofs.Ytcjiipbppkdkaaa.E Go.Proofs.Ytcjiipbppkdkaaa.Eng
set_option linter.unusedVariables false
set_option linter.unusedSimpArgs false

theorem checks_l0 (q : Qry) (p : Pap) (hq : q.1.length ≤ 1000000000) (hp : p.2.2.1.length ≤ 1000000000) : ∀ (m i : Nat), i + m = q.1.length → TP (fun k => chartularylaw17_FindChecks.l0 k (i : Int) q.1 q.2.1 q.2.2.1 q.2.2.2.1 p.1 p.2.1 p.2.2.1) (fun v => v.1.1 = true)
  | 0, i, h => TP.step (fun k => rfl) (TP.dec (fun h' => absurd h' (by omega)) fun _ => awake_end fun _ => rfl)
  | m + 1, i, h => by
    have hi : i < q.1.length := by omega
    refine TP.step (fun k => rfl) (TP.dec (fun h' => TP.optE (rdo_at hi) (TP.bindR (holds_ok _ p hp) (TP.optE (rdo_at hi) (TP.bindR (lholds_ok _ p hp) (TP.no ?_ ?_))))) fun h' => absurd (by omega : (i : Int) < q.1.length) h')
    · show (!(holdsV q.1[i] p == holdsV q.1[i] p)) = false
      rw [beq_self_eq_true]; rfl
    · rw [show IntKind.wrap .i64 ((i : Int) + 1) = ((i + 1 : Nat) : Int) by rw [wrap_i64 (by omega) (by omega)]; rfl]
      exact checks_l0 q p hq hp m (i + 1) (by omega)
/-- The law. -/
theorem FindChecks : chartularylaw17_FindChecks.Pure := by
  intro q p w0 w1 hb
  refine TP.one (TP.step (fun k => rfl) (TP.bind (few_ok q) fun v hv => TP.bind (pfew_ok p) fun u hu => ?_))
  have hok : QryOk v.1.1 := ⟨⟨by have := hv.1.1; omega, fun t ht => by have := hv.1.2 t ht; omega⟩, by have := hv.2.1; omega⟩
  refine TP.bindR (fcheck_ok v.1.1 hok) (TP.bindR (lcheck_ok v.1.1 hok) (TP.neI (fun h => absurd rfl h) fun _ => ?_))
  exact checks_l0 v.1.1 u.1.1 hok.t.1 (by omega) _ 0 (Nat.zero_add _)
end Go.Proofs.Ytcjiipbppkdkaaa.Pure
