/- Plain laws of chapter 17: what any query finds, by the program and by the document. -/
import Derived.Test.YtpidgdelfaidoaaPSortMI
namespace Go.Proofs.Ytpidgdelfaidoaa.Pure
open Go Go.Proofs.Ytpidgdelfaidoaa.E Go.Proofs.Ytpidgdelfaidoaa.Eng
set_option linter.unusedVariables false
set_option linter.unusedSimpArgs false
noncomputable def outV (cP : List Pap) (q : Qry) (l : List Int) : List Int := if q.2.1 = ⟨#[]⟩ then l else srtV (eI cP q.2.1 q.2.2.1) l
theorem outV_len (cP : List Pap) (q : Qry) (l : List Int) : (outV cP q l).length = l.length := by
 unfold outV; split
 ·rfl
 ·exact (srtV_ok (ordI _ _ _) l).2.2
theorem take_end (q : Qry) (hm : ¬ q.2.2.2.1 < 0) (S : List Int) : TP (fun k => find_Run.j0 k S q.1 q.2.1 q.2.2.1 q.2.2.2.1) (fun v => v = ((S.take q.2.2.2.1.toNat, 0, ()), ())) := by
 have e : (bif decide (q.2.2.2.1 < (S.length : Int)) then q.2.2.2.1 else (S.length : Int)) = (if q.2.2.2.1 < (S.length : Int) then q.2.2.2.1 else (S.length : Int)) := by
  by_cases hc : q.2.2.2.1 < (S.length : Int)
  ·rw [decide_eq_true hc, if_pos hc]; rfl
  ·rw [decide_eq_false hc, if_neg hc]; rfl
 refine TP.step (fun k => rfl) (TP.ck ?_ (TP.some ?_))
 ·rw [e]
  simp only [Bool.and_eq_true, decide_eq_true_eq]
  split <;> omega
 ·rw [e]
  by_cases hc : q.2.2.2.1 < (S.length : Int)
  ·rw [if_pos hc, Int.sub_zero]; rfl
  ·rw [if_neg hc, Int.sub_zero, Int.toNat_natCast]
   show (((S.take S.length, 0, ()), ()) : find_Run.R) = _
   rw [List.take_length, List.take_of_length_le (by omega)]
section
variable (q : Qry) (l : List Pap) (hq : q.1.length ≤ 1000000000) (hl : PapsOk l) (h30 : l.length ≤ 30) (hm : ¬ q.2.2.2.1 < 0)
include hq hl h30 hm
theorem run2_l0 : ∀ (m i : Nat), i + m = l.length → ∀ (out : List Int), out.length ≤ i → InR l out →
  TP (fun k => find_Run.l0 k out l (l.length : Int) (i : Int) q.1 q.2.1 q.2.2.1 q.2.2.2.1 l) (fun v => v = (((outV l q (out ++ selI (allV q.1) i (l.drop i))).take q.2.2.2.1.toNat, 0, ()), ()))
 | 0, i, h, out, ho, hR => by
  rw [List.drop_of_length_le (by omega), show selI (allV q.1) i [] = [] from rfl, List.append_nil]
  refine TP.step (fun k => rfl) (TP.dec (fun h' => absurd h' (by omega)) fun _ => TP.neT (fun h => ?_) fun h => ?_)
  ·refine TP.bind (sort_ok hl out hR (by omega)) fun v hv => ?_
   rw [hv]
   have e : outV l q out = srtV (eI l q.2.1 q.2.2.1) out := by unfold outV; rw [if_neg h]
   rw [e]
   exact take_end q hm _
  ·have e : outV l q out = out := by unfold outV; rw [if_pos h]
   rw [e]
   exact take_end q hm out
 | m + 1, i, h, out, ho, hR => by
  have hi : i < l.length := by omega
  have hp := hl.2 _ (List.getElem_mem hi)
  have e : IntKind.wrap .i64 ((i : Int) + 1) = ((i + 1 : Nat) : Int) := by rw [wrap_i64 (by omega) (by omega)]; rfl
  rw [List.drop_eq_getElem_cons hi]
  unfold selI
  refine TP.step (fun k => rfl) (TP.dec (fun h' => TP.optE (rdo_at hi) ?_) fun h' => absurd (by omega : (i : Int) < l.length) h')
  refine run_l1 q l hq out i l[i] hp (by omega) (fun _ => trivial) _ 0 (Nat.zero_add _) (fun ha => ?_) fun ha => ?_
  ·rw [List.drop_zero] at ha
   rw [if_pos ha, e]
   have nx := run2_l0 m (i + 1) (by omega) (out ++ [(i : Int)]) (by simp only [List.length_append, List.length_cons, List.length_nil]; omega) (fun z hz => by
    rcases List.mem_append.1 hz with hz | hz
    ·exact hR z hz
    ·rw [List.mem_singleton.1 hz]; omega)
   rw [List.append_assoc] at nx
   exact nx
  ·rw [List.drop_zero] at ha
   rw [if_neg (by rw [ha]; decide), e]
   exact run2_l0 m (i + 1) (by omega) out (by omega) hR
end
noncomputable def foundV (q : Qry) (l : List Pap) : List Int := (outV l q (selI (allV q.1) 0 l)).take q.2.2.2.1.toNat
theorem check_most {q : Qry} (h : checkA q = 0) : ¬ q.2.2.2.1 < 0 := fun h0 => by
 unfold checkA at h; rw [if_pos (Or.inr h0)] at h; cases h
theorem run2_ok (q : Qry) (l : List Pap) (hq : QryOk q) (hl : PapsOk l) (h30 : l.length ≤ 30) : TP (fun k => find_Run.f k q l) (fun v => (checkA q ≠ 0 → v = (([], checkA q, ()), ())) ∧ (checkA q = 0 → v = ((foundV q l, 0, ()), ()))) := by
 refine TP.step (fun k => rfl) (TP.bindR (fcheck_ok q hq) (TP.neI (fun h => TP.some ⟨fun _ => rfl, fun e => absurd e h⟩) fun h => ?_))
 have h : checkA q = 0 := h
 refine TP.mono (run2_l0 q l hq.t.1 hl h30 (check_most h) l.length 0 (Nat.zero_add _) [] (Nat.le_refl _) (fun z hz => by cases hz)) fun v hv => ⟨fun e => absurd h e, fun _ => ?_⟩
 rw [hv, List.nil_append, List.drop_zero]; rfl
/-! ## The document -/
section
variable (q : Qry) (l : List Pap) (hq : q.1.length ≤ 1000000000) (hl : PapsOk l) (h30 : l.length ≤ 30)
include hq hl h30
omit hq hl h30 in
end
end Go.Proofs.Ytpidgdelfaidoaa.Pure
