/- Plain law: MerkleClimbs. -/
import Derived.Test.YtoceopdoedmgoaaPLaw07
import Derived.Test.YtoceopdoedmgoaaESMerkleClimbs
namespace Go.Proofs.Ytoceopdoedmgoaa.Pure
open Go Go.Proofs.Ytoceopdoedmgoaa.E Go.Proofs.Ytoceopdoedmgoaa.Eng
set_option linter.unusedVariables false
set_option linter.unusedSimpArgs false

theorem climbs_bad (x : ByteArray) (i n : Int) (p : List ByteArray) (t f1 f2 c N) : TP (fun k => chartularylaw07_MerkleClimbs.j1 k x i n p ⟨#[]⟩ 20 true t f1 f2 c [] N) (fun v => v.1.1 = true) :=
  TP.step (fun k => rfl) (TP.eqT (fun _ => awake_end fun _ => rfl) fun h => absurd rfl h)
theorem climbs_good (x : ByteArray) (hx : x.size = 32) (i n : Nat) (p : List ByteArray) (hn : n ≤ 65536) (hi : i < n) (hp : S32 p) (hq : p.length ≤ 1000000000) (hd : p.length = depthV i n) (t f1 f2 c N) : TP (fun k => chartularylaw07_MerkleClimbs.j1 k x (i : Int) (n : Int) p (climbV [] x i n p) 0 false t f1 f2 c [] N) (fun v => v.1.1 = true) :=
  TP.step (fun k => rfl) (TP.bindM (lclimb_ok tok_nil x hx n i n p (Nat.le_refl _) (by omega) hi hp hq hd _ _ _ _ _) fun _ => TP.eqT (fun _ => awake_end fun _ => rfl) fun h => absurd rfl h)
theorem climbs_ok (x : ByteArray) (i n : Int) (p : List ByteArray) (hq : p.length ≤ 1000000000) (t f1 f2 c N) : TP (fun k => chartularylaw07_MerkleClimbs.j0 k x i n p t f1 f2 c [] N) (fun v => v.1.1 = true) := by
  have hC := Climb_ok tok_nil x i n p hq
  by_cases hA : n < 1 ∨ n > 65536 ∨ i < 0 ∨ i ≥ n
  · have e : ClimbA [] x i n p = (⟨#[]⟩, 21, ()) := if_pos hA
    rw [e] at hC
    refine TP.step (fun k => rfl) (TP.bindM (hC _ _ _ _ _) fun _ => TP.dec (fun _ => ?_) fun h1 => TP.dec (fun _ => ?_) fun h2 => TP.dec (fun _ => ?_) fun h3 => TP.dec (fun _ => ?_) fun h4 => ?_)
    · exact TP.eqT (fun _ => awake_end fun _ => rfl) fun h => absurd rfl h
    · exact TP.eqT (fun _ => awake_end fun _ => rfl) fun h => absurd rfl h
    · exact TP.eqT (fun _ => awake_end fun _ => rfl) fun h => absurd rfl h
    · exact TP.eqT (fun _ => awake_end fun _ => rfl) fun h => absurd rfl h
    · omega
  obtain ⟨i, rfl⟩ := Int.eq_ofNat_of_zero_le (by omega : 0 ≤ i)
  obtain ⟨n, rfl⟩ := Int.eq_ofNat_of_zero_le (by omega : 0 ≤ n)
  by_cases hx : x.size = 32
  · cases hs : sumsB p with
    | false =>
      have e : ClimbA [] x i n p = (⟨#[]⟩, 20, ()) := by unfold ClimbA; rw [if_neg hA, if_pos (Or.inr (Or.inr hs))]
      rw [e] at hC
      refine TP.step (fun k => rfl) (TP.bindM (hC _ _ _ _ _) fun _ => TP.dec (fun _ => by omega) fun h1 => TP.dec (fun _ => by omega) fun h2 => TP.dec (fun _ => by omega) fun h3 => TP.dec (fun _ => by omega) fun h4 => TP.neI (fun _ => by omega) fun _ => ?_)
      refine TP.bindM (lsums_ok p hq) fun _ => TP.not (fun _ => climbs_bad _ _ _ _ _ _ _ _ _) fun h => ?_
      have h : sumsB p = true := h
      rw [hs] at h; cases h
    | true =>
      have hp := (sumsB_iff p).1 hs
      by_cases hd : p.length = depthV i n
      · have hd' := depth_le 16 i n (by omega)
        have e : ClimbA [] x i n p = (climbV [] x i n p, 0, ()) := by
          unfold ClimbA
          rw [if_neg hA, if_neg, if_neg]
          · rw [Int.toNat_natCast, Int.toNat_natCast]
          · rw [Int.toNat_natCast, Int.toNat_natCast]; exact fun e => e hd
          · rintro (h | h | h)
            · omega
            · exact h hx
            · rw [hs] at h; cases h
        rw [e] at hC
        refine TP.step (fun k => rfl) (TP.bindM (hC _ _ _ _ _) fun _ => TP.dec (fun _ => by omega) fun h1 => TP.dec (fun _ => by omega) fun h2 => TP.dec (fun _ => by omega) fun h3 => TP.dec (fun _ => by omega) fun h4 => TP.neI (fun _ => by omega) fun _ => ?_)
        refine TP.bindM (lsums_ok p hq) fun _ => TP.not (fun h => ?_) fun _ => ?_
        · have h : sumsB p = false := h
          rw [hs] at h; cases h
        · refine TP.bindM (ldepth_ok i n (by omega) (by omega)) fun _ => ?_
          rw [show ((p.length : Int) != (((depthV i n : Int), ()), (_ : Unit)).1.1) = false by dsimp only; rw [hd]; simp]
          exact climbs_good x hx i n p (by omega) (by omega) hp hq hd _ _ _ _ _
      · have e : ClimbA [] x i n p = (⟨#[]⟩, 20, ()) := by
          unfold ClimbA
          rw [if_neg hA, Int.toNat_natCast, Int.toNat_natCast]
          split <;> first | rfl | rw [if_pos hd]
        rw [e] at hC
        refine TP.step (fun k => rfl) (TP.bindM (hC _ _ _ _ _) fun _ => TP.dec (fun _ => by omega) fun h1 => TP.dec (fun _ => by omega) fun h2 => TP.dec (fun _ => by omega) fun h3 => TP.dec (fun _ => by omega) fun h4 => TP.neI (fun _ => by omega) fun _ => ?_)
        refine TP.bindM (lsums_ok p hq) fun _ => TP.not (fun _ => climbs_bad _ _ _ _ _ _ _ _ _) fun _ => ?_
        refine TP.bindM (ldepth_ok i n (by omega) (by omega)) fun _ => ?_
        rw [show ((p.length : Int) != (((depthV i n : Int), ()), (_ : Unit)).1.1) = true by dsimp only; rw [bne_iff_ne]; omega]
        exact climbs_bad _ _ _ _ _ _ _ _ _
  · have e : ClimbA [] x i n p = (⟨#[]⟩, 20, ()) := by unfold ClimbA; rw [if_neg hA, if_pos (Or.inr (Or.inl hx))]
    rw [e] at hC
    exact TP.step (fun k => rfl) (TP.bindM (hC _ _ _ _ _) fun _ => TP.dec (fun _ => by omega) fun h1 => TP.dec (fun _ => by omega) fun h2 => TP.dec (fun _ => by omega) fun h3 => TP.dec (fun _ => by omega) fun h4 => TP.neI (fun _ => climbs_bad _ _ _ _ _ _ _ _ _) fun h => by omega)
/-- The law. -/
theorem MerkleClimbs : chartularylaw07_MerkleClimbs.Pure := by
  intro x i n p w0 w1 w2 w3 hb
  have hl : p.length ≤ 1048576 := Nat.le_trans (sumB_len (bulkT .str) (fun y => by simp [bulkT]) p) (Nat.le_trans (Nat.le_add_left _ _) hb)
  refine TP.one (TP.step (fun k => rfl) (TP.bindR new_ok (TP.dec (fun h => TP.ck (by simp only [Bool.and_eq_true, decide_eq_true_eq]; omega) ?_) fun h => ?_)))
  · refine climbs_ok x i n _ ?_ _ _ _ _ _
    rw [List.length_drop, List.length_take]; omega
  · exact climbs_ok x i n p (by omega) _ _ _ _ _
end Go.Proofs.Ytoceopdoedmgoaa.Pure
