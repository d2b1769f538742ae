/- Plain law: MerkleGrowths. -/
import Derived.Test.YtoceopdoedmgoaaPLaw07
import Derived.Test.YtoceopdoedmgoaaESMerkleGrowths
namespace Go.Proofs.Ytoceopdoedmgoaa.Pure
open Go Go.Proofs.Ytoceopdoedmgoaa.E Go.Proofs.Ytoceopdoedmgoaa.Eng
set_option linter.unusedVariables false
set_option linter.unusedSimpArgs false

theorem growths_in (l : List ByteArray) (hb : l.length ≤ 40) (hl : S32 l) (a : Nat) (ha : a ≤ l.length) (t f1 f2 c N) : TP (fun k => chartularylaw07_MerkleGrowths.j0 k (a : Int) l (GrowthA [] l a).1 0 false t f1 f2 c [] N) (fun v => v.1.1 = true) := by
  have hs := rootV_size (T := []) tok_nil hl
  have hs' := rootV_size (T := []) tok_nil (hl.take a)
  have hp : S32 (GrowthA [] l a).1 ∧ (GrowthA [] l a).1.length ≤ 17 := by
    unfold GrowthA
    rw [if_neg (by omega)]
    by_cases h0 : a = 0
    · rw [if_pos (by omega)]; exact ⟨(fun x hx => nomatch hx), Nat.zero_le _⟩
    · rw [if_neg (by omega)]
      obtain ⟨h1, h2⟩ := growV_s32 tok_nil l.length l (Nat.le_refl _) hl a true (by omega) ha
      have := long_le 16 a l.length true (by omega)
      exact ⟨h1, by dsimp only; rw [Int.toNat_natCast]; omega⟩
  have e : GrownA [] (a : Int) (rootV [] (l.take a)) (l.length : Int) (rootV [] l) (GrowthA [] l a).1 = 0 := by
    unfold GrownA
    rw [if_neg (by omega), if_neg (by omega), if_neg]
    · by_cases h0 : a = 0
      · subst h0
        have e0 : (GrowthA [] l ((0 : Nat) : Int)).1 = [] := by unfold GrowthA; rw [if_neg (by omega), if_pos (show ((0 : Nat) : Int) = 0 from rfl)]
        rw [if_pos (show ((0 : Nat) : Int) = 0 from rfl), if_neg, if_neg]
        · rw [e0]; decide
        · rintro (h | ⟨h1, h2⟩)
          · exact h (rootV_nil rfl)
          · have : l.length = 0 := by omega
            rw [rootV_nil this, List.take_zero, rootV_nil rfl] at h2
            exact h2 rfl
      · have e0 : (GrowthA [] l (a : Int)).1 = growV [] l a true := by unfold GrowthA; rw [if_neg (by omega), if_neg (by omega)]; rfl
        rw [if_neg (by omega), Int.toNat_natCast, Int.toNat_natCast, e0, if_neg, if_neg]
        · rw [both_grow l.length l (Nat.le_refl _) a true _ (by omega) ha (fun _ => rfl)]; exact fun h => h rfl
        · exact fun h => h (growV_s32 tok_nil l.length l (Nat.le_refl _) hl a true (by omega) ha).2
    · rintro (h | h)
      · omega
      · rw [(sumsB_iff _).2 hp.1] at h; cases h
  refine TP.step (fun k => rfl) (TP.ck (by simp only [Bool.and_eq_true, decide_eq_true_eq]; omega) ?_)
  refine TP.bindM (root_is tok_nil _ (by rw [List.length_drop, List.length_take]; omega) ((hl.take _).drop _) _ _ _ _ _) fun _ => TP.bindM (root_is tok_nil l (by omega) hl _ _ _ _ _) fun _ => ?_
  refine TP.eqI (fun _ => ?_) fun h => absurd rfl h
  refine TP.bindM (lgrowth_ok tok_nil l (by omega) hl a ha _ _ _ _ _) fun _ => TP.bindM (same_ok _ (by omega)) fun _ => TP.yes rfl ?_
  have hG := grown_ok tok_nil (a : Int) (rootV [] (l.take a)) (l.length : Int) (rootV [] l) (GrowthA [] l a).1 (by omega)
  rw [e] at hG
  refine TP.bindM (hG _ _ _ _ _) fun _ => ?_
  exact TP.eqI (fun _ => awake_end fun _ => rfl) fun h => absurd rfl h
theorem growths_out (l : List ByteArray) (a : Int) (t f1 f2 c N) : TP (fun k => chartularylaw07_MerkleGrowths.j0 k a l [] 21 true t f1 f2 c [] N) (fun v => v.1.1 = true) :=
  TP.step (fun k => rfl) (awake_end fun _ => rfl)
/-- The law. -/
theorem MerkleGrowths : chartularylaw07_MerkleGrowths.Pure := by
  intro texts a w0 w1 hb
  have hl : texts.length ≤ 1048576 := Nat.le_trans (sumB_len (bulkT .str) (fun y => by simp [bulkT]) texts) (Nat.le_trans (Nat.le_add_right _ _) hb)
  have h40 := leavesV_len texts
  have hs := leavesV_s32 texts
  have hG := growth_ok tok_nil (leavesV texts) (by omega) hs a
  refine TP.one (TP.step (fun k => rfl) (TP.bindR new_ok (TP.bindM (leaves_ok texts (by omega) _ _ _ _ _) fun s1 => ?_)))
  by_cases hi : a < 0 ∨ a > (leavesV texts).length
  · have e : GrowthA [] (leavesV texts) a = ([], 21, ()) := if_pos hi
    rw [e] at hG
    refine TP.bindM (hG _ _ _ _ _) fun _ => TP.dec (fun _ => growths_out _ _ _ _ _ _ _) fun h => ?_
    rw [show (decide (a > ((((leavesV texts), ()), s1).1.1.length : Int))) = true from decide_eq_true (by dsimp only; omega)]
    exact growths_out _ _ _ _ _ _ _
  · obtain ⟨a, rfl⟩ := Int.eq_ofNat_of_zero_le (by omega : 0 ≤ a)
    have e : (GrowthA [] (leavesV texts) (a : Int)) = ((GrowthA [] (leavesV texts) (a : Int)).1, 0, ()) := by
      unfold GrowthA
      rw [if_neg hi]
      split <;> rfl
    rw [e] at hG
    refine TP.bindM (hG _ _ _ _ _) fun _ => TP.dec (fun h => by omega) fun h => ?_
    rw [show (decide ((a : Int) > ((((leavesV texts), ()), s1).1.1.length : Int))) = false from decide_eq_false (by dsimp only; omega)]
    exact growths_in _ h40 hs a (by omega) _ _ _ _ _
end Go.Proofs.Ytoceopdoedmgoaa.Pure
