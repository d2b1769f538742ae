/- Plain law: MerkleLeaf. -/
import Derived.Test.YtoceopdoedmgoaaPWith
import Derived.Test.YtoceopdoedmgoaaPLaw07
import Derived.Test.YtoceopdoedmgoaaESMerkleLeaf
namespace Go.Proofs.Ytoceopdoedmgoaa.Pure
open Go Go.Proofs.Ytoceopdoedmgoaa.E Go.Proofs.Ytoceopdoedmgoaa.Eng
set_option linter.unusedVariables false
set_option linter.unusedSimpArgs false

theorem ClimbA_yes {T : Tab} {x : ByteArray} {i n : Int} {p : List ByteArray} (h : (ClimbA T x i n p).2.1 = 0) : ¬ (n < 1 ∨ n > 65536 ∨ i < 0 ∨ i ≥ n) ∧ x.size = 32 ∧ S32 p ∧ p.length = depthV i.toNat n.toNat := by
  unfold ClimbA at h
  split at h
  · cases h
  · next h1 =>
    split at h
    · cases h
    · next h2 =>
      split at h
      · cases h
      · next h3 =>
        refine ⟨h1, Classical.byContradiction fun e => h2 (Or.inr (Or.inl e)), ?_, Classical.byContradiction h3⟩
        refine (sumsB_iff p).1 ?_
        cases hs : sumsB p with
        | true => rfl
        | false => exact absurd (Or.inr (Or.inr hs)) h2
theorem leaf_j0 (l : List Row) (hb : l.length ≤ 1000000000) (hl : ∀ x ∈ l, RowOk x) (i n : Int) (a : ByteArray) (p : List ByteArray) (b : ByteArray) (q : List ByteArray) (hp : p.length ≤ 1000000000) (hq : q.length ≤ 1000000000) :
    TP (fun k => chartularylaw07_MerkleLeaf.j0 k l i n a p b q) (fun v => v.1.1 = true) := by
  rcases rows_case l with ho | ⟨j, hj, ho⟩
  · refine TP.step (fun k => rfl) (TP.or1 (TP.bind (with_ok l hb hl ho) fun v hv => ?_))
    obtain ⟨T, hT, rfl⟩ := hv
    refine TP.neI (fun h => absurd rfl h) fun _ => ?_
    by_cases hgood : (ClimbA T a i n p).2.1 = 0 ∧ (ClimbA T b i n q).2.1 = 0
    · obtain ⟨h1, sa, sp, lp⟩ := ClimbA_yes hgood.1
      obtain ⟨_, sb, sq, lq⟩ := ClimbA_yes hgood.2
      obtain ⟨i, rfl⟩ := Int.eq_ofNat_of_zero_le (by omega : 0 ≤ i)
      obtain ⟨n, rfl⟩ := Int.eq_ofNat_of_zero_le (by omega : 0 ≤ n)
      rw [Int.toNat_natCast, Int.toNat_natCast] at lp lq
      have hd := depth_le 16 i n (by omega)
      refine TP.bindN (v := (climbV T a i n p, 0, ())) (R := fun s => NS T (climbW T a i n p ++ []) s ∧ (climbW T a i n p).length = p.length) (Climb_noted hT a sa i n p (by omega) (by omega) sp lp (W := []) (by simp; omega) (noted_nil T _) _ _) fun s hs => ?_
      refine TP.bindN (v := (climbV T b i n q, 0, ())) (R := fun s => NS T (climbW T b i n q ++ (climbW T a i n p ++ [])) s ∧ (climbW T b i n q).length = q.length) (Climb_noted hT b sb i n q (by omega) (by omega) sq lq (W := climbW T a i n p ++ []) (by rw [List.length_append]; simp; omega) hs.1 _ _) fun s2 hs2 => TP.bindM (twins_ok _ _ _ _ _) fun _ => ?_
      refine TP.neI (fun h => absurd rfl h) fun _ => TP.neI (fun h => absurd rfl h) fun _ => TP.neT (fun _ => awake_end fun _ => rfl) fun he => TP.eqT (fun _ => awake_end fun _ => rfl) fun hne => ?_
      dsimp only at he
      cases hf : s2.1.2.2.2.1 with
      | false =>
        have hA := Noted.apart hs2.1 hf
        exact absurd (climb_inj hT hA sa sb n n i p q (Nat.le_refl _) sp sq lp lq (fun t h => List.mem_append_right _ (List.mem_append_left _ h)) (fun t h => List.mem_append_left _ h) he) hne
      | true =>
        have ht := hs2.1.tw hf
        exact TP.yes rfl (TP.neT (fun _ => awake_end fun _ => rfl) fun h => absurd h ht)
    · refine TP.bindM (Climb_ok hT a i n p hp _ _ _ _ _) fun s => TP.bindM (Climb_ok hT b i n q hq _ _ _ _ _) fun s2 => TP.bindM (twins_ok _ _ _ _ _) fun _ => ?_
      refine TP.neI (fun _ => awake_end fun _ => rfl) fun h1 => TP.neI (fun _ => awake_end fun _ => rfl) fun h2 => absurd ⟨h1, h2⟩ hgood
  · refine TP.step (fun k => rfl) (TP.or2 (fun k => bind_none (with_bad l hb j hj ho k)) (TP.bind (with_nil l hb hl j hj ho) fun v hv => ?_))
    subst hv
    exact TP.neI (fun _ => awake_end fun _ => rfl) fun h => by cases h
/-- The law. -/
theorem MerkleLeaf : chartularylaw07_MerkleLeaf.Pure := by
  intro l i n a p b q w0 w1 w2 w3 w4 w5 w6 hb
  have hrow (y : Row) : bulkT (.cons .bool (.cons .str (.cons .str (.cons .str .nil)))) y = 1 + ((y.2.1.size + 1) + ((y.2.2.1.size + 1) + ((y.2.2.2.1.size + 1) + 0))) := rfl
  have hsum : sumB (bulkT (.cons .bool (.cons .str (.cons .str (.cons .str .nil))))) l ≤ 1048576 := by
    refine Nat.le_trans ?_ hb
    show bulkT (.sl (.cons .bool (.cons .str (.cons .str (.cons .str .nil))))) l ≤ _
    omega
  have hl : l.length ≤ 1048576 := Nat.le_trans (sumB_len (bulkT (.cons .bool (.cons .str (.cons .str (.cons .str .nil))))) (fun y => by have h := hrow y; have h' : bulkT (.cons .bool (.cons .str (.cons .str (.cons .str .nil)))) y = _ := h; omega) l) hsum
  have hr : ∀ x ∈ l, RowOk x := fun x hx => by
    have h1 := sumB_ge (bulkT (.cons .bool (.cons .str (.cons .str (.cons .str .nil))))) l x hx
    have h2 : bulkT (.cons .bool (.cons .str (.cons .str (.cons .str .nil)))) x = _ := hrow x
    exact ⟨by omega, by omega⟩
  have hp : p.length ≤ 1048576 := Nat.le_trans (sumB_len (bulkT .str) (fun y => by simp [bulkT]) p) (by show bulkT (.sl .str) p ≤ _; omega)
  have hq : q.length ≤ 1048576 := Nat.le_trans (sumB_len (bulkT .str) (fun y => by simp [bulkT]) q) (by show bulkT (.sl .str) q ≤ _; omega)
  refine TP.one (TP.step (fun k => rfl) (TP.dec (fun h => TP.ck (by simp only [Bool.and_eq_true, decide_eq_true_eq]; omega) ?_) fun h => ?_))
  · exact leaf_j0 _ (by rw [List.length_drop, List.length_take]; omega) (fun x hx => hr x (List.mem_of_mem_take (List.mem_of_mem_drop hx))) _ _ _ _ _ _ (by omega) (by omega)
  · exact leaf_j0 _ (by omega) hr _ _ _ _ _ _ (by omega) (by omega)
end Go.Proofs.Ytoceopdoedmgoaa.Pure
