/- Plain law: FindRuns. -/
import Derived.Test.YtcjiipbppkdkaaaP17d
import Derived.Test.YtcjiipbppkdkaaaPAw17
import Derived.Test.YtcjiipbppkdkaaaESFindRuns
namespace Go.Proofs.Ytcjiipbppkdkaaa.Pure
open Go Go.Proofs.Ytcjiipbppkdkaaa.E Go.Proofs.Ytcjiipbppkdkaaa.Eng
set_option linter.unusedVariables false
set_option linter.unusedSimpArgs false

theorem runs_l0 (x : List Int) (hx : x.length ≤ 1000000) : ∀ (m i : Nat), i + m = x.length → TP (fun k => chartularylaw17_FindRuns.l0 k x x (i : Int)) (fun v => v.1.1 = true)
  | 0, i, h => TP.step (fun k => rfl) (TP.no (by apply decide_eq_false; omega) (awake_end fun _ => rfl))
  | m + 1, i, h => by
    have hi : i < x.length := by omega
    refine TP.step (fun k => rfl) (TP.yes (by apply decide_eq_true; omega) (TP.optE (rdo_at hi) (TP.optE (rdo_at hi) (TP.neI (fun h => absurd rfl h) fun _ => ?_))))
    rw [show IntKind.wrap .i64 ((i : Int) + 1) = ((i + 1 : Nat) : Int) by rw [wrap_i64 (by omega) (by omega)]; rfl]
    exact runs_l0 x hx m (i + 1) (by omega)
/-- The law. -/
theorem FindRuns : chartularylaw17_FindRuns.Pure := by
  intro q l w0 w1 hb
  refine TP.one (TP.step (fun k => rfl) (TP.bind (few_ok q) fun v hv => TP.bind (papers_ok l) fun u hu => ?_))
  obtain ⟨⟨q, ⟨⟩⟩, ⟨⟩⟩ := v
  obtain ⟨⟨l, ⟨⟩⟩, ⟨⟩⟩ := u
  obtain ⟨hv1, hv2, hv3⟩ := hv
  obtain ⟨hu1, hu2⟩ := hu
  have hv1 : q.1.length ≤ 20 ∧ ∀ t ∈ q.1, t.1.size ≤ 300 := hv1
  have hv2 : q.2.1.size ≤ 300 := hv2
  have hu1 : l.length ≤ 30 := hu1
  have hu2 : ∀ p ∈ l, p.2.2.1.length ≤ 30 := hu2
  have hq : QryOk q := ⟨⟨by omega, fun t ht => by have := hv1.2 t ht; omega⟩, by omega⟩
  have hps : PapsOk l := ⟨by omega, fun p hp => by have := hu2 p hp; omega⟩
  refine TP.bind (run2_ok q l hq hps hu1) fun r hr => TP.bindR (lcheck_ok q hq) (TP.neI (fun h => ?_) fun h => ?_)
  · have h : checkA q ≠ 0 := h
    have hr := hr.1 h
    subst hr
    exact TP.eqI (fun _ => TP.bindR (lcheck_ok q hq) (TP.eqI (fun _ => awake_end fun _ => rfl) fun h => absurd rfl h)) fun h => absurd rfl h
  · have h : checkA q = 0 := h
    have hr := hr.2 h
    subst hr
    have hlen : (foundV q l).length ≤ 1000000 := by
      unfold foundV
      rw [List.length_take, outV_len]
      have := selI_len (allV q.1) l 0
      omega
    refine TP.bind (lright_ok l (by omega) (fun p hp => by have := hu2 p hp; omega)) fun v _ => TP.not (fun _ => TP.eqI (fun _ => awake_end fun _ => rfl) fun h => absurd rfl h) fun _ => TP.bind (lrun_ok q l hq hps hu1 (check_most h)) fun w hw => ?_
    obtain ⟨⟨w, ⟨⟩⟩, ⟨⟩⟩ := w
    have hw : w = foundV q l := hw
    subst hw
    exact TP.neI (fun h => absurd rfl h) fun _ => TP.neI (fun h => absurd rfl h) fun _ => TP.step (fun k => rfl) (runs_l0 _ hlen _ 0 (Nat.zero_add _))
end Go.Proofs.Ytcjiipbppkdkaaa.Pure
