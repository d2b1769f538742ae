/- Plain laws: chapter 7: what the document says, as plain functions; the example. -/
import Derived.Test.YtfbpkpnnglhbcaaPLawR
import Derived.Test.YtfbpkpnnglhbcaaPGrow
namespace Go.Proofs.Ytfbpkpnnglhbcaa.Pure
open Go Go.Proofs.Ytfbpkpnnglhbcaa.E Go.Proofs.Ytfbpkpnnglhbcaa.Eng
set_option linter.unusedVariables false
set_option linter.unusedSimpArgs false
section
variable {T : Tab}
end
noncomputable def leafC (s : ByteArray) : ByteArray := leafV [] (if s.size > 100 then s.extract 0 100 else s)
theorem leaves_loop (l : List ByteArray) (hb : l.length ≤ 1000000000) : ∀ (m i : Nat) (out : List ByteArray), i + m = l.length → out = (l.take i).map leafC → i ≤ 40 → ∀ t f1 f2 n N, TP (fun k => chartularylaw07_Leaves.l0 k l out (i : Int) t f1 f2 n [] N) (fun v => v.1 = ((l.take 40).map leafC, ()))
 | m, i, out, h, ho, h4, t, f1, f2, n, N => by
  refine TP.step (fun k => rfl) (TP.dec (fun h1 => TP.dec (fun h2 => ?_) fun h2 => TP.some ?_) fun h1 => TP.some ?_)
  ·have hi : i < l.length := by omega
   have hlen : out.length = i := by rw [ho, List.length_map, List.length_take]; omega
   cases m with
   | zero => omega
   | succ m =>
   have e : IntKind.wrap .i64 ((i : Int) + 1) = ((i + 1 : Nat) : Int) := by rw [wrap_i64 (by omega) (by omega)]; rfl
   refine TP.optE (rdo_at hi) (TP.dec (fun h3 => TP.ck (by simp only [Bool.and_eq_true, decide_eq_true_eq]; omega) ?_) fun h3 => ?_)
   ·refine TP.bindM (leaf_ok _ (by rw [ByteArray.size_extract]; show min 100 _ - 0 ≤ _; omega) _ _ _ _ _) fun _ => TP.ck (by apply decide_eq_true; simp only [List.length_cons, List.length_nil]; omega) ?_
    rw [e]
    refine leaves_loop l hb m (i + 1) _ (by omega) ?_ (by omega) _ _ _ _ _
    dsimp only
    rw [List.take_succ_eq_append_getElem hi, List.map_append, ho]
    unfold leafC
    simp only [List.map_cons, List.map_nil]
    rw [if_pos (by omega)]; rfl
   ·refine TP.bindM (leaf_ok _ (by omega) _ _ _ _ _) fun _ => TP.ck (by apply decide_eq_true; simp only [List.length_cons, List.length_nil]; omega) ?_
    rw [e]
    refine leaves_loop l hb m (i + 1) _ (by omega) ?_ (by omega) _ _ _ _ _
    dsimp only
    rw [List.take_succ_eq_append_getElem hi, List.map_append, ho]
    unfold leafC
    simp only [List.map_cons, List.map_nil]
    rw [if_neg (by omega)]
  ·rw [ho, show i = 40 by omega]
  ·rw [ho, List.take_of_length_le (by omega), List.take_of_length_le (by omega)]
noncomputable def leavesV (l : List ByteArray) : List ByteArray := (l.take 40).map leafC
theorem leavesV_len (l : List ByteArray) : (leavesV l).length ≤ 40 := by unfold leavesV; rw [List.length_map, List.length_take]; omega
theorem leavesV_s32 (l : List ByteArray) : S32 (leavesV l) := fun x hx => by
 obtain ⟨y, _, rfl⟩ := List.mem_map.1 hx
 exact hashV_size tok_nil _
theorem leaves_ok (l : List ByteArray) (hb : l.length ≤ 1000000000) (t f1 f2 n N) : TP (fun k => chartularylaw07_Leaves.f k l t f1 f2 n [] N) (fun v => v.1 = (leavesV l, ())) :=
 TP.step (fun k => rfl) (leaves_loop l hb l.length 0 [] (Nat.zero_add _) rfl (by omega) _ _ _ _ _)
theorem new_ok : Runs (fun k => mill_New.f k) (((), ()), (((), (), (ByteArray.empty, (ByteArray.empty, ())), false, false, 0, ()), ([], ()), ([], ()), ())) := Runs.step (fun k => rfl) Runs.some
end Go.Proofs.Ytfbpkpnnglhbcaa.Pure
