/- Plain laws: lists of sums. -/
import Derived.Test.YtfbpkpnnglhbcaaPMerkR
namespace Go.Proofs.Ytfbpkpnnglhbcaa.Pure
open Go Go.Proofs.Ytfbpkpnnglhbcaa.E Go.Proofs.Ytfbpkpnnglhbcaa.Eng
set_option linter.unusedVariables false
set_option linter.unusedSimpArgs false
section
variable {T : Tab}
theorem sums_loop (l : List ByteArray) (hb : l.length ≤ 1000000000) : ∀ (m i : Nat), i + m = l.length → TP (fun k => merkle_sums.l0 k l (l.length : Int) (i : Int)) (fun v => v.1 = ((l.drop i).all (fun x => x.size == 32), ()))
 | 0, i, h => TP.step (fun k => rfl) (TP.dec (fun h' => absurd h' (by omega)) fun _ => TP.some (by rw [List.drop_eq_nil_of_le (by omega)]; rfl))
 | m + 1, i, h => by
  have hi : i < l.length := by omega
  refine TP.step (fun k => rfl) (TP.dec (fun h' => ?_) fun h' => absurd (by omega : (i : Int) < l.length) h')
  refine TP.optE (rdo_at hi) (TP.neI (fun hn => TP.some ?_) fun hn => ?_)
  ·rw [List.drop_eq_getElem_cons hi, List.all_cons, beq_false_of_ne (by omega)]; rfl
  ·have e : IntKind.wrap .i64 ((i : Int) + 1) = ((i + 1 : Nat) : Int) := by rw [wrap_i64 (by omega) (by omega)]; rfl
   rw [e]
   refine TP.mono (sums_loop l hb m (i + 1) (by omega)) fun v hv => ?_
   rw [hv, List.drop_eq_getElem_cons hi, List.all_cons, show (l[i].size == 32) = true from beq_iff_eq.2 (by omega)]; rfl
def sumsB (l : List ByteArray) : Bool := l.all fun x => x.size == 32
theorem sumsB_iff (l : List ByteArray) : sumsB l = true ↔ S32 l := by
 unfold sumsB S32; rw [List.all_eq_true]; simp
theorem sums_ok (l : List ByteArray) (hb : l.length ≤ 1000000000) : TP (fun k => merkle_sums.f k l) (fun v => v.1 = (sumsB l, ())) := TP.step (fun k => rfl) (sums_loop l hb l.length 0 (Nat.zero_add _))
end
end Go.Proofs.Ytfbpkpnnglhbcaa.Pure
