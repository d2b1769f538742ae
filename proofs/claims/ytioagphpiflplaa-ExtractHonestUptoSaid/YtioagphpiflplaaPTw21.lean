/- Plain laws of chapter 21: a pair found; twins by a table. -/
import Derived.Test.YtioagphpiflplaaPAw21
namespace Go.Proofs.Ytioagphpiflplaa.Pure
open Go Go.Proofs.Ytioagphpiflplaa.E Go.Proofs.Ytioagphpiflplaa.Eng
set_option linter.unusedVariables false
set_option linter.unusedSimpArgs false

theorem found_ok {T : Tab} (t : ByteArray × ByteArray × Unit) (f1 f2 n N) : TP (fun k => extract_found.f k t f1 f2 n T N) (fun v => v.1 = (if f1 = true then (t.1, t.2.1, ()) else (ByteArray.empty, ByteArray.empty, ()), f1, ())) := by
  refine TP.step (fun k => rfl) (TP.bindM (twins_ok _ _ _ _ _) fun _ => TP.not (fun h => TP.some ?_) fun h => TP.some ?_)
  · have h : f1 = false := h
    subst h; rfl
  · have h : f1 = true := h
    subst h; rfl
abbrev WithR (T : Tab) : mill_With_has.R := (((), 0, ()), (((), (), (ByteArray.empty, (ByteArray.empty, ())), false, false, 0, ()), (T, ()), ([], ()), ()))
theorem sum_table {T : Tab} {l : List Row} (hv : Runs (fun k => mill_With_has.f k l) (WithR T)) (a : ByteArray) (ha : a.size ≤ 100000000) : TP (fun k => chartularylaw21_sum.f k l a) (fun v => v.1 = (hashV T a, ())) :=
  TP.step (fun k => rfl) (TP.or1 (TP.bindR hv (TP.neI (fun h => absurd rfl h) fun _ => TP.bindM (sum_ok a ha _ _ _ _ _) fun _ => TP.some rfl)))
theorem twins_table {T : Tab} (hT : Tok T) {l : List Row} (hv : Runs (fun k => mill_With_has.f k l) (WithR T)) (a b : ByteArray) (ha : a.size ≤ 100000000) (hb : b.size ≤ 100000000) (hne : a ≠ b) (he : hashV T a = hashV T b) : TP (fun k => chartularylaw21_twins.f k l (a, b, ())) (fun v => v.1.1 = true) := by
  have hs := hashV_size hT a
  refine TP.step (fun k => rfl) (TP.bindM (sum_table hv a ha) fun _ => TP.neT (fun _ => TP.neT (fun _ => TP.bindM (sum_table hv b hb) fun _ => TP.some ?_) fun h => ?_) fun h => absurd h hne)
  · dsimp only
    rw [he, beq_text, decide_eq_true rfl]
  · dsimp only at h
    rw [h] at hs; cases hs
end Go.Proofs.Ytioagphpiflplaa.Pure
