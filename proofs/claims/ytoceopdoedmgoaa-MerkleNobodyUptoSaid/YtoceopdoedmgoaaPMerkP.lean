/- Plain laws: paths, as the program makes them. -/
import Derived.Test.YtoceopdoedmgoaaPMerkR
namespace Go.Proofs.Ytoceopdoedmgoaa.Pure
open Go Go.Proofs.Ytoceopdoedmgoaa.E Go.Proofs.Ytoceopdoedmgoaa.Eng
set_option linter.unusedVariables false
set_option linter.unusedSimpArgs false

section
variable {T : Tab}
theorem path_ok (hT : Tok T) : ∀ (m : Nat) (l : List ByteArray), l.length ≤ m → m ≤ 1000000000 → S32 l → ∀ (i : Nat), i < l.length → ∀ t f1 f2 n N, TP (fun k => merkle_Path.f k l (i : Int) t f1 f2 n T N) (fun v => v.1 = (pathV T l i, 0, ()))
  | m, l, hm, hb, hl, i, hi, t, f1, f2, n, N => by
    refine TP.step (fun k => rfl) (TP.dec (fun h => absurd h (by omega)) fun _ => TP.step (fun k => rfl) (TP.eqI (fun h => TP.some ?_) fun h1 => ?_))
    · rw [pathV_one (by omega)]
    · have h2 : 2 ≤ l.length := by omega
      have hlt := below_lt h2
      have hp := below_pos l.length
      cases m with
      | zero => omega
      | succ m =>
      have hd : l.length ≤ 1000000000 := by omega
      have hr (q : List ByteArray) (i : Nat) (h : q.length ≤ m) (hq : S32 q) : (pathV T q i).length ≤ 100 := by
        rw [(pathV_s32 hT m q h hq i).2]; exact Nat.le_trans (depth_le 64 i _ (by omega)) (by decide)
      refine TP.bindM (split_ok h2 (by omega)) fun _ => TP.dec (fun hc => ?_) fun hc => ?_
      · dsimp only at hc
        have hc : i < belowN l.length := by omega
        refine TP.ck (by dsimp only; simp only [Bool.and_eq_true, decide_eq_true_eq]; omega) ?_
        refine TP.bindM (path_ok hT m _ (by dsimp only; rw [tkI, List.length_take]; omega) (by omega) ((hl.take _).drop _) i (by dsimp only; rw [tkI, List.length_take]; omega) _ _ _ _ _) fun _ => ?_
        refine TP.ck (by dsimp only; simp only [Bool.and_eq_true, decide_eq_true_eq]; omega) ?_
        refine TP.bindM (root_is hT _ (by dsimp only; rw [dkI, List.length_drop]; omega) ((hl.take _).drop _) _ _ _ _ _) fun _ => ?_
        refine TP.ck (by apply decide_eq_true; dsimp only; rw [tkI]; have := hr _ i (by rw [List.length_take]; omega) (hl.take (belowN l.length)); simp only [List.length_cons, List.length_nil]; omega) (TP.some ?_)
        dsimp only
        rw [tkI, dkI, ← pathV_left h2 hc]
      · dsimp only at hc
        have hc : ¬ i < belowN l.length := by omega
        refine TP.ck (by dsimp only; simp only [Bool.and_eq_true, decide_eq_true_eq]; omega) ?_
        refine TP.bindM (v := (pathV T (l.drop (belowN l.length)) (i - belowN l.length), 0, ())) ?_ fun _ => ?_
        · dsimp only
          rw [dkI, show IntKind.wrap .i64 ((i : Int) - (belowN l.length : Int)) = ((i - belowN l.length : Nat) : Int) by rw [wrap_i64 (by omega) (by omega)]; omega]
          exact path_ok hT m _ (by rw [List.length_drop]; omega) (by omega) (hl.drop _) (i - belowN l.length) (by rw [List.length_drop]; omega) _ _ _ _ _
        refine TP.ck (by dsimp only; simp only [Bool.and_eq_true, decide_eq_true_eq]; omega) ?_
        refine TP.bindM (root_is hT _ (by dsimp only; rw [tkI, List.length_take]; omega) ((hl.take _).drop _) _ _ _ _ _) fun _ => ?_
        refine TP.ck (by apply decide_eq_true; dsimp only; have := hr _ (i - belowN l.length) (by rw [List.length_drop]; omega) (hl.drop (belowN l.length)); simp only [List.length_cons, List.length_nil]; omega) (TP.some ?_)
        dsimp only
        rw [tkI, ← pathV_right h2 hc]
theorem path_out (l : List ByteArray) (i : Int) (h : i < 0 ∨ (l.length : Int) ≤ i) (t f1 f2 n N) : TP (fun k => merkle_Path.f k l i t f1 f2 n T N) (fun v => v.1 = ([], 7, ())) :=
  TP.step (fun k => rfl) (TP.dec (fun _ => TP.some rfl) fun h1 => TP.dec (fun _ => TP.some rfl) fun h2 => absurd h (by omega))
end
end Go.Proofs.Ytoceopdoedmgoaa.Pure
