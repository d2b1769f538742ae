/- Plain law: MerkleGrowns. -/
import Derived.Test.YtoceopdoedmgoaaPLaw07
import Derived.Test.YtoceopdoedmgoaaESMerkleGrowns
namespace Go.Proofs.Ytoceopdoedmgoaa.Pure
open Go Go.Proofs.Ytoceopdoedmgoaa.E Go.Proofs.Ytoceopdoedmgoaa.Eng
set_option linter.unusedVariables false
set_option linter.unusedSimpArgs false

theorem growns_j1 (a : Int) (x : ByteArray) (n : Int) (y : ByteArray) (p : List ByteArray) (hq : p.length ≤ 1000000000) {w : Int} (hw : GrownA [] a x n y p = w) (t f1 f2 c N) : TP (fun k => chartularylaw07_MerkleGrowns.j1 k p w a x n y t f1 f2 c [] N) (fun v => v.1.1 = true) := by
  subst hw
  exact TP.step (fun k => rfl) (TP.bindM (grown_ok tok_nil a x n y p hq _ _ _ _ _) fun _ => TP.eqI (fun _ => awake_end fun _ => rfl) fun h => absurd rfl h)
theorem growns_j3 (a : Int) (x : ByteArray) (n : Int) (y : ByteArray) (p : List ByteArray) (hq : p.length ≤ 1000000000) (g1 : ¬ (a < 0 ∨ a > n ∨ n > 65536)) (g2 : ¬ (x.size ≠ 32 ∨ y.size ≠ 32)) (b : Bool) (hb : b = true ↔ (p.length > 17 ∨ sumsB p = false)) (t f1 f2 c N) : TP (fun k => chartularylaw07_MerkleGrowns.j3 k p 0 b a x n y t f1 f2 c [] N) (fun v => v.1.1 = true) := by
  refine TP.step (fun k => rfl) (TP.cond (fun h => growns_j1 _ _ _ _ _ hq ?_ _ _ _ _ _) fun h => ?_)
  · unfold GrownA; rw [if_neg g1, if_neg g2, if_pos (hb.1 h)]
  have g3 : ¬ (p.length > 17 ∨ sumsB p = false) := fun e => by rw [hb.2 e] at h; cases h
  have hp : S32 p := (sumsB_iff p).1 (by cases hs : sumsB p with | true => rfl | false => exact absurd (Or.inr hs) g3)
  have hG (w : Int) (h : (if a = 0 then (if x ≠ noneV [] ∨ (n = 0 ∧ y ≠ x) then 19 else if p.length > 0 then 20 else 0) else if p.length ≠ longV a.toNat n.toNat true then 20 else if bothV [] a.toNat n.toNat true x p ≠ (x, y) then 19 else 0) = w) : GrownA [] a x n y p = w := by
    unfold GrownA; rw [if_neg g1, if_neg g2, if_neg g3]; exact h
  refine TP.eqI (fun h7 => TP.bindM (pnone_ok _ _ _ _ _) fun _ => ?_) fun h7 => ?_
  · refine TP.neT (fun h => growns_j1 _ _ _ _ _ hq (hG _ ?_) _ _ _ _ _) fun h8 => TP.eqI (fun h9 => TP.neT (fun h => growns_j1 _ _ _ _ _ hq (hG _ ?_) _ _ _ _ _) fun h => TP.dec (fun h' => growns_j1 _ _ _ _ _ hq (hG _ ?_) _ _ _ _ _) fun h' => growns_j1 _ _ _ _ _ hq (hG _ ?_) _ _ _ _ _) fun h9 => TP.dec (fun h' => growns_j1 _ _ _ _ _ hq (hG _ ?_) _ _ _ _ _) fun h' => growns_j1 _ _ _ _ _ hq (hG _ ?_) _ _ _ _ _
    all_goals rw [if_pos h7]
    · rw [if_pos (Or.inl h)]
    · rw [if_pos (Or.inr ⟨h9, h⟩)]
    · rw [if_neg (by rintro (e | e); (· exact e h8); exact e.2 h), if_pos (by omega)]
    · rw [if_neg (by rintro (e | e); (· exact e h8); exact e.2 h), if_neg (by omega)]
    · rw [if_neg (by rintro (e | e); (· exact e h8); exact h9 e.1), if_pos (by omega)]
    · rw [if_neg (by rintro (e | e); (· exact e h8); exact h9 e.1), if_neg (by omega)]
  · obtain ⟨a, rfl⟩ := Int.eq_ofNat_of_zero_le (by omega : 0 ≤ a)
    obtain ⟨n, rfl⟩ := Int.eq_ofNat_of_zero_le (by omega : 0 ≤ n)
    rw [if_neg h7, Int.toNat_natCast, Int.toNat_natCast] at hG
    refine TP.bindM (llong_ok n a n true (Nat.le_refl _) (by omega) (by omega) (by omega)) fun _ => TP.neI (fun h => growns_j1 _ _ _ _ _ hq (hG _ ?_) _ _ _ _ _) fun h => ?_
    · dsimp only at h
      rw [if_pos (by omega)]
    · dsimp only at h
      have hd : p.length = longV a n true := by omega
      rw [if_neg (fun e => e hd)] at hG
      refine TP.bind (lboth_ok tok_nil n a n true x p (Nat.le_refl _) (by omega) (by omega) (by omega) (by omega) hp hq hd _ _ _ _ _) fun v hv => ?_
      obtain ⟨⟨s, r, ⟨⟩⟩, z⟩ := v
      obtain ⟨hv1, hv2, hv3⟩ := hv
      have es : s = (bothV [] a n true x p).1 := congrArg (fun v => v.1) hv1
      have er : r = (bothV [] a n true x p).2 := congrArg (fun v => v.2.1) hv1
      refine TP.neT (fun h => growns_j1 _ _ _ _ _ hq (hG _ ?_) _ _ _ _ _) fun h9 => TP.neT (fun h => growns_j1 _ _ _ _ _ hq (hG _ ?_) _ _ _ _ _) fun h => growns_j1 _ _ _ _ _ hq (hG _ ?_) _ _ _ _ _
      · rw [if_pos (fun e => h (by rw [e] at es; exact es))]
      · rw [if_pos (fun e => h (by rw [e] at er; exact er))]
      · dsimp only at h9 h
        rw [if_neg (fun e => e (Prod.ext (es.symm.trans h9) (er.symm.trans h)))]
theorem growns_j2 (a : Int) (x : ByteArray) (n : Int) (y : ByteArray) (p : List ByteArray) (hq : p.length ≤ 1000000000) (g1 : ¬ (a < 0 ∨ a > n ∨ n > 65536)) (b : Bool) (hb : b = true ↔ (x.size ≠ 32 ∨ y.size ≠ 32)) (t f1 f2 c N) : TP (fun k => chartularylaw07_MerkleGrowns.j2 k p 0 b a x n y t f1 f2 c [] N) (fun v => v.1.1 = true) := by
  refine TP.step (fun k => rfl) (TP.cond (fun h => growns_j1 _ _ _ _ _ hq ?_ _ _ _ _ _) fun h => ?_)
  · unfold GrownA; rw [if_neg g1, if_pos (hb.1 h)]
  have g2 : ¬ (x.size ≠ 32 ∨ y.size ≠ 32) := fun e => by rw [hb.2 e] at h; cases h
  refine TP.dec (fun h => growns_j3 _ _ _ _ _ hq g1 g2 true ⟨fun _ => Or.inl (by omega), fun _ => rfl⟩ _ _ _ _ _) fun h => TP.bindM (lsums_ok p hq) fun _ => growns_j3 _ _ _ _ _ hq g1 g2 _ ?_ _ _ _ _ _
  dsimp only
  rw [Bool.not_eq_true']
  exact ⟨Or.inr, fun e => e.elim (fun e => by omega) id⟩
theorem growns_j0 (a : Int) (x : ByteArray) (n : Int) (y : ByteArray) (p : List ByteArray) (hq : p.length ≤ 1000000000) (t f1 f2 c N) : TP (fun k => chartularylaw07_MerkleGrowns.j0 k p a x n y t f1 f2 c [] N) (fun v => v.1.1 = true) := by
  refine TP.step (fun k => rfl) (TP.dec (fun h => growns_j1 _ _ _ _ _ hq ?_ _ _ _ _ _) fun h1 => TP.dec (fun h => growns_j1 _ _ _ _ _ hq ?_ _ _ _ _ _) fun h2 => TP.dec (fun h => growns_j1 _ _ _ _ _ hq ?_ _ _ _ _ _) fun h3 => TP.neI (fun h => growns_j2 _ _ _ _ _ hq (by omega) true ⟨fun _ => Or.inl (by omega), fun _ => rfl⟩ _ _ _ _ _) fun h => growns_j2 _ _ _ _ _ hq (by omega) _ ?_ _ _ _ _ _)
  · unfold GrownA; rw [if_pos (Or.inl h)]
  · unfold GrownA; rw [if_pos (Or.inr (Or.inl h))]
  · unfold GrownA; rw [if_pos (Or.inr (Or.inr h))]
  · rw [bne_iff_ne]
    exact ⟨fun e => Or.inr (by omega), fun e => by omega⟩
/-- The law. -/
theorem MerkleGrowns : chartularylaw07_MerkleGrowns.Pure := by
  intro x y p w0 w1 w2 hb
  have hl : p.length ≤ 1048576 := Nat.le_trans (sumB_len (bulkT .str) (fun y => by simp [bulkT]) p) (Nat.le_trans (Nat.le_add_left _ _) hb)
  refine TP.one (TP.step (fun k => rfl) (TP.bindR new_ok (TP.dec (fun h => TP.ck (by simp only [Bool.and_eq_true, decide_eq_true_eq]; omega) ?_) fun h => ?_)))
  · refine growns_j0 x.1 x.2.1 y.1 y.2.1 _ ?_ _ _ _ _ _
    rw [List.length_drop, List.length_take]; omega
  · exact growns_j0 x.1 x.2.1 y.1 y.2.1 p (by omega) _ _ _ _ _
end Go.Proofs.Ytoceopdoedmgoaa.Pure
