/- Plain laws: growths. -/
import Derived.Test.YtfbpkpnnglhbcaaPMerk
import Derived.Test.YtfbpkpnnglhbcaaPBoth
namespace Go.Proofs.Ytfbpkpnnglhbcaa.Pure
open Go Go.Proofs.Ytfbpkpnnglhbcaa.E Go.Proofs.Ytfbpkpnnglhbcaa.Eng
set_option linter.unusedVariables false
set_option linter.unusedSimpArgs false
section
variable {T : Tab}
theorem grow_ok (hT : Tok T) : ∀ (m : Nat) (l : List ByteArray), l.length ≤ m → m ≤ 1000000000 → S32 l → ∀ (a : Nat) (w : Bool), 1 ≤ a → a ≤ l.length → ∀ t f1 f2 n N, TP (fun k => merkle_grow.f k l (a : Int) w t f1 f2 n T N) (fun v => v.1 = (growV T l a w, ()))
 | m, l, hm, hb, hl, a, w, h1, ha, t, f1, f2, n, N => by
  refine TP.step (fun k => rfl) (TP.eqI (fun h => TP.cond (fun hw => TP.some ?_) fun hw => TP.bindM (root_is hT l (by omega) hl _ _ _ _ _) fun _ => TP.some ?_) fun h0 => ?_)
  ·have h : a = l.length := by omega
   subst h; subst hw
   rw [growV_all]
  ·have h : a = l.length := by omega
   subst h; subst hw
   rw [growV_part]
  ·have h2 : 2 ≤ l.length := by omega
   have hn : a ≠ l.length := by omega
   have hlt := below_lt h2
   have hp := below_pos l.length
   cases m with
   | zero => omega
   | succ m =>
   have hd : l.length ≤ 1000000000 := by omega
   have hr (q : List ByteArray) (a : Nat) (w : Bool) (h : q.length ≤ m) (hq : S32 q) (h1 : 1 ≤ a) (ha : a ≤ q.length) : (growV T q a w).length ≤ 100 := by
    rw [(growV_s32 hT m q h hq a w h1 ha).2]; exact Nat.le_trans (long_le 64 a _ w (by omega)) (by decide)
   refine TP.bindM (split_ok h2 (by omega)) fun _ => TP.dec (fun hc => ?_) fun hc => ?_
   ·dsimp only at hc
    have hc : a ≤ belowN l.length := by omega
    refine TP.ck (by dsimp only; simp only [Bool.and_eq_true, decide_eq_true_eq]; omega) ?_
    refine TP.bindM (grow_ok hT m _ (by dsimp only; rw [tkI, List.length_take]; omega) (by omega) ((hl.take _).drop _) a w h1 (by dsimp only; rw [tkI, List.length_take]; omega) _ _ _ _ _) fun _ => ?_
    refine TP.ck (by dsimp only; simp only [Bool.and_eq_true, decide_eq_true_eq]; omega) ?_
    refine TP.bindM (root_is hT _ (by dsimp only; rw [dkI, List.length_drop]; omega) ((hl.take _).drop _) _ _ _ _ _) fun _ => ?_
    refine TP.ck (by apply decide_eq_true; dsimp only; rw [tkI]; have := hr _ a w (by rw [List.length_take]; omega) (hl.take (belowN l.length)) h1 (by rw [List.length_take]; omega); simp only [List.length_cons, List.length_nil]; omega) (TP.some ?_)
    dsimp only
    rw [tkI, dkI, ← growV_left h2 hn hc]
   ·dsimp only at hc
    have hc : ¬ a ≤ belowN l.length := by omega
    refine TP.ck (by dsimp only; simp only [Bool.and_eq_true, decide_eq_true_eq]; omega) ?_
    refine TP.bindM (v := (growV T (l.drop (belowN l.length)) (a - belowN l.length) false, ())) ?_ fun _ => ?_
    ·dsimp only
     rw [dkI, show IntKind.wrap .i64 ((a : Int) - (belowN l.length : Int)) = ((a - belowN l.length : Nat) : Int) by rw [wrap_i64 (by omega) (by omega)]; omega]
     exact grow_ok hT m _ (by rw [List.length_drop]; omega) (by omega) (hl.drop _) (a - belowN l.length) false (by omega) (by rw [List.length_drop]; omega) _ _ _ _ _
    refine TP.ck (by dsimp only; simp only [Bool.and_eq_true, decide_eq_true_eq]; omega) ?_
    refine TP.bindM (root_is hT _ (by dsimp only; rw [tkI, List.length_take]; omega) ((hl.take _).drop _) _ _ _ _ _) fun _ => ?_
    refine TP.ck (by apply decide_eq_true; dsimp only; have := hr _ (a - belowN l.length) false (by rw [List.length_drop]; omega) (hl.drop (belowN l.length)) (by omega) (by rw [List.length_drop]; omega); simp only [List.length_cons, List.length_nil]; omega) (TP.some ?_)
    dsimp only
    rw [tkI, ← growV_right h2 hn hc]
noncomputable def GrowthA (T : Tab) (l : List ByteArray) (a : Int) : List ByteArray × Int × Unit := if a < 0 ∨ a > l.length then ([], 21, ()) else if a = 0 then ([], 0, ()) else (growV T l a.toNat true, 0, ())
theorem growth_ok (hT : Tok T) (l : List ByteArray) (hb : l.length ≤ 1000000000) (hl : S32 l) (a : Int) (t f1 f2 n N) : TP (fun k => merkle_Growth.f k l a t f1 f2 n T N) (fun v => v.1 = GrowthA T l a) := by
 refine TP.step (fun k => rfl) (TP.dec (fun h => TP.some ?_) fun h1 => TP.dec (fun h => TP.some ?_) fun h2 => TP.step (fun k => rfl) (TP.eqI (fun h => TP.some ?_) fun h3 => ?_))
 ·unfold GrowthA; rw [if_pos (by omega)]
 ·unfold GrowthA; rw [if_pos (by omega)]
 ·unfold GrowthA; rw [if_neg (by omega), if_pos (by omega)]
 ·obtain ⟨a, rfl⟩ := Int.eq_ofNat_of_zero_le (by omega : 0 ≤ a)
  refine TP.bindM (grow_ok hT _ l (Nat.le_refl _) hb hl a true (by omega) (by omega) _ _ _ _ _) fun _ => TP.some ?_
  unfold GrowthA; rw [if_neg (by omega), if_neg (by omega)]; rfl
end
end Go.Proofs.Ytfbpkpnnglhbcaa.Pure
