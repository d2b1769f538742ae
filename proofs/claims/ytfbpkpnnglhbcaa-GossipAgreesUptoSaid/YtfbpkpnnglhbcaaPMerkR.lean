/- Plain laws: roots, as the program makes them. -/
import Derived.Test.YtfbpkpnnglhbcaaPMerkV
namespace Go.Proofs.Ytfbpkpnnglhbcaa.Pure
open Go Go.Proofs.Ytfbpkpnnglhbcaa.E Go.Proofs.Ytfbpkpnnglhbcaa.Eng
set_option linter.unusedVariables false
set_option linter.unusedSimpArgs false
section
variable {α β : Type}
theorem tkI (l : List α) (k : Nat) : (l.take ((k : Int)).toNat).drop (0 : Int).toNat = l.take k := rfl
theorem dkI (l : List α) (k : Nat) : (l.take ((l.length : Int)).toNat).drop ((k : Int)).toNat = l.drop k := by rw [Int.toNat_natCast, Int.toNat_natCast, List.take_length]
end
theorem tlI {l : List ByteArray} (h0 : l.length ≠ 0) (h : l.length ≤ 1000000000) : (l.take (IntKind.wrap .i64 ((l.length : Int) - 1)).toNat).drop (0 : Int).toNat = l.dropLast := by
 rw [wrap_i64 (by omega) (by omega), List.dropLast_eq_take, show ((l.length : Int) - 1).toNat = l.length - 1 by omega]; rfl
theorem lastI {l : List ByteArray} (h0 : l.length ≠ 0) (h : l.length ≤ 1000000000) : rdo l (IntKind.wrap .i64 ((l.length : Int) - 1)) = some (lastV l) := by
 rw [wrap_i64 (by omega) (by omega), show (l.length : Int) - 1 = ((l.length - 1 : Nat) : Int) by omega, rdo_at (by omega)]
 unfold lastV
 rw [List.getLastD_eq_getLast?, List.getLast?_eq_getElem?, List.getElem?_eq_getElem (by omega)]; rfl
section
variable {T : Tab}
theorem root_ok (hT : Tok T) : ∀ (m : Nat) (l : List ByteArray), l.length ≤ m → m ≤ 1000000000 → S32 l → ∀ t f1 f2 n N, TP (fun k => merkle_Root.f k l t f1 f2 n T N) (fun v => v.1 = (rootV T l, ()))
 | m, l, hm, hb, hl, t, f1, f2, n, N => by
  refine TP.step (fun k => rfl) (TP.eqI (fun h => TP.bindM (pnone_ok _ _ _ _ _) fun _ => TP.some ?_) fun h0 => TP.eqI (fun h => ?_) fun h1 => ?_)
  ·rw [rootV_nil (by omega)]
  ·obtain ⟨x, rfl⟩ := List.length_eq_one_iff.1 (by omega : l.length = 1)
   exact TP.optE (v := x) rfl (TP.some (by rw [rootV_one rfl]; rfl))
  ·have h2 : 2 ≤ l.length := by omega
   have hlt := below_lt h2
   have hp := below_pos l.length
   cases m with
   | zero => omega
   | succ m =>
   refine TP.bindM (split_ok h2 (by omega)) fun _ => ?_
   refine TP.ck (by dsimp only; simp only [Bool.and_eq_true, decide_eq_true_eq]; omega) ?_
   refine TP.bindM (root_ok hT m _ (by dsimp only; rw [tkI, List.length_take]; omega) (by omega) ((hl.take _).drop _) _ _ _ _ _) fun _ => ?_
   refine TP.ck (by dsimp only; simp only [Bool.and_eq_true, decide_eq_true_eq]; omega) ?_
   refine TP.bindM (root_ok hT m _ (by dsimp only; rw [dkI, List.length_drop]; omega) (by omega) ((hl.take _).drop _) _ _ _ _ _) fun _ => ?_
   have e1 := rootV_size hT (hl.take (belowN l.length))
   have e2 := rootV_size hT (hl.drop (belowN l.length))
   refine TP.bindM (node_ok _ _ (by dsimp only; rw [tkI]; omega) (by dsimp only; rw [dkI]; omega) _ _ _ _ _) fun _ => TP.some ?_
   dsimp only
   rw [tkI, dkI, ← rootV_two h2]
theorem root_is (hT : Tok T) (l : List ByteArray) (hb : l.length ≤ 1000000000) (hl : S32 l) (t f1 f2 n N) : TP (fun k => merkle_Root.f k l t f1 f2 n T N) (fun v => v.1 = (rootV T l, ())) := root_ok hT _ l (Nat.le_refl _) hb hl t f1 f2 n N
end
end Go.Proofs.Ytfbpkpnnglhbcaa.Pure
