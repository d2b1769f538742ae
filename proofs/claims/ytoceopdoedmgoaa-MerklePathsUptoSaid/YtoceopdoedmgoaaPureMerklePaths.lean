/- Plain law: MerklePaths. -/
import Derived.Test.YtoceopdoedmgoaaPLaw07
import Derived.Test.YtoceopdoedmgoaaESMerklePaths
namespace Go.Proofs.Ytoceopdoedmgoaa.Pure
open Go Go.Proofs.Ytoceopdoedmgoaa.E Go.Proofs.Ytoceopdoedmgoaa.Eng
set_option linter.unusedVariables false
set_option linter.unusedSimpArgs false

theorem paths_in (l : List ByteArray) (hb : l.length ≤ 40) (hl : S32 l) (i : Nat) (hi : i < l.length) (t f1 f2 c N) : TP (fun k => chartularylaw07_MerklePaths.j0 k (i : Int) l (pathV [] l i) 0 false t f1 f2 c [] N) (fun v => v.1.1 = true) := by
  obtain ⟨hp, hd⟩ := pathV_s32 tok_nil l.length l (Nat.le_refl _) hl i
  have hd' := depth_le 16 i l.length (by omega)
  have hq : (pathV [] l i).length ≤ 1000000000 := by omega
  have hx : l[i].size = 32 := hl _ (List.getElem_mem hi)
  have hC := Climb_ok tok_nil l[i] (i : Int) (l.length : Int) (pathV [] l i) hq
  have e : ClimbA [] l[i] (i : Int) (l.length : Int) (pathV [] l i) = (rootV [] l, 0, ()) := by
    unfold ClimbA
    rw [if_neg (by omega), if_neg, if_neg]
    · rw [Int.toNat_natCast, Int.toNat_natCast, climb_path l.length l (Nat.le_refl _) i l[i] (List.getElem?_eq_getElem hi)]
    · rw [Int.toNat_natCast, Int.toNat_natCast]; exact fun e => e hd
    · rintro (h | h | h)
      · omega
      · exact h hx
      · rw [(sumsB_iff _).2 hp] at h; cases h
  rw [e] at hC
  refine TP.step (fun k => rfl) (TP.optE (rdo_at hi) (TP.bindM (hC _ _ _ _ _) fun _ => ?_))
  refine TP.bindM (lpath_ok tok_nil l.length l (Nat.le_refl _) (by omega) hl i hi _ _ _ _ _) fun _ => TP.bindM (same_ok _ hq) fun _ => TP.yes rfl ?_
  refine TP.eqI (fun _ => TP.bindM (root_is tok_nil l (by omega) hl _ _ _ _ _) fun _ => ?_) fun h => absurd rfl h
  exact TP.eqT (fun _ => awake_end fun _ => rfl) fun h => absurd rfl h
theorem paths_out (l : List ByteArray) (i : Int) (t f1 f2 c N) : TP (fun k => chartularylaw07_MerklePaths.j0 k i l [] 7 true t f1 f2 c [] N) (fun v => v.1.1 = true) :=
  TP.step (fun k => rfl) (awake_end fun _ => rfl)
/-- The law. -/
theorem MerklePaths : chartularylaw07_MerklePaths.Pure := by
  intro texts i w0 w1 hb
  have hl : texts.length ≤ 1048576 := Nat.le_trans (sumB_len (bulkT .str) (fun y => by simp [bulkT]) texts) (Nat.le_trans (Nat.le_add_right _ _) hb)
  have h40 := leavesV_len texts
  have hs := leavesV_s32 texts
  refine TP.one (TP.step (fun k => rfl) (TP.bindR new_ok (TP.bindM (leaves_ok texts (by omega) _ _ _ _ _) fun s1 => ?_)))
  by_cases hi : i < 0 ∨ ((leavesV texts).length : Int) ≤ i
  · refine TP.bindM (path_out _ i hi _ _ _ _ _) fun _ => TP.dec (fun _ => paths_out _ _ _ _ _ _ _) fun h => ?_
    rw [show (decide (i ≥ ((((leavesV texts), ()), s1).1.1.length : Int))) = true from decide_eq_true (by dsimp only; omega)]
    exact paths_out _ _ _ _ _ _ _
  · obtain ⟨i, rfl⟩ := Int.eq_ofNat_of_zero_le (by omega : 0 ≤ i)
    refine TP.bindM (path_ok tok_nil _ _ (Nat.le_refl _) (by omega) hs i (by omega) _ _ _ _ _) fun _ => TP.dec (fun h => by omega) fun h => ?_
    rw [show (decide ((i : Int) ≥ ((((leavesV texts), ()), s1).1.1.length : Int))) = false from decide_eq_false (by dsimp only; omega)]
    exact paths_in _ h40 hs i (by omega) _ _ _ _ _
end Go.Proofs.Ytoceopdoedmgoaa.Pure
