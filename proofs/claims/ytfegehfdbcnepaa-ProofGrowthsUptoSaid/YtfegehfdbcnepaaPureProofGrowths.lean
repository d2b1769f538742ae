/- ProofGrowths: which growths may be, any one's bytes, and that it is read again; for arguments that hold together at most 1048576 values and letters. -/
import Derived.Test.YtfegehfdbcnepaaSProofGrowths
import Derived.Test.YtfegehfdbcnepaaQProof
namespace Go.Proofs.Ytfegehfdbcnepaa.Pure
open Go.RowKit Go.Proofs.Ytfegehfdbcnepaa.PAll Go.Proofs.YtfegehfdbcnepaaW.PrintWords Go.Proofs.YtfegehfdbcnepaaW.PrintLast Go.Proofs.Ytfegehfdbcnepaa.Q
set_option linter.unusedVariables false
set_option linter.unusedSimpArgs false
theorem growths_j0 (k : Nat) (hk : 100 ≤ k) (n : Int) (root : ByteArray) (path : List ByteArray) (hl : path.length ≤ 30) :
    chartularylaw19_ProofGrowths.j0 (k + 1) (if rightG n root path = true then growB n root path else B []) (rightG n root path) n root path = some true := by
  rw [chartularylaw19_ProofGrowths.j0, rightG_ok k n root path (by omega) (by omega)]
  simp only [bind_some', bne_self_eq_false, Bool.false_eq_true, if_false]
  by_cases h : rightG n root path = true
  · obtain ⟨h0, h1, h2, h3, h4⟩ := rightG_iff h
    simp only [if_pos h]
    rw [read_grow k n root path hk h]
    have s1 := numI_size n
    have s2 := textB_size root
    have s3 := room_le path 32 (fun a ha => by rw [h3 a ha]; exact Nat.le_refl _)
    have s4 : path.length * (32 + 8) ≤ 17 * 40 := Nat.mul_le_mul h4 (by omega)
    have s5 := textsB_size path
    have s6 := numI_size (path.length : Int)
    simp only [bind_some']
    rw [octet_num k (by omega), octet_text' k (by omega) root (by omega), list_ok k path (by omega) (by omega) (by omega)]
    simp only [bind_some']
    rw [if_pos (by omega), if_pos (by simp only [ByteArray.size_append]; omega)]
    rw [if_pos (by unfold growB; rw [BA_assoc]), if_pos trivial, if_pos (by simp), same_ok k path (by omega) (by omega)]
    simp only [bind_some', if_true]
    rw [proof_awake k (by omega)]
    rfl
  · simp only [if_neg h]
    rw [if_pos (by rw [toList_eq]; rfl), proof_awake k (by omega)]
    rfl
/-- ProofGrowths, in plain numbers and lists. -/
theorem ProofGrowths : chartularylaw19_ProofGrowths.Pure := by
  intro x hw hb
  refine ⟨200, ?_⟩
  have hl : x.f1.length ≤ 1048576 := by
    have := Open.bulks_len (fun y : ByteArray => y.size + 1) (fun y => by omega) x.f1
    simp only [bulk34] at hb
    omega
  unfold chartularylaw19_ProofGrowths.f
  rw [cut_ok, cut_texts 200 (by decide) _ (by omega)]
  simp only [bind_some']
  have h30 := cutL_length x.f1
  rw [grow_ok 200 _ _ _ (by decide) (by omega) (by omega), law_sums 200 _ _ (by omega) (by omega)]
  simp only [bind_some']
  have key := growths_j0 199 (by decide) x.f0.f0 (cutB x.f0.f1) (cutL x.f1) h30
  by_cases h0 : x.f0.f0 ≥ 0
  · rw [if_pos h0]
    by_cases h1 : x.f0.f0 ≤ 65536
    · rw [if_pos h1]
      by_cases h2 : (cutB x.f0.f1).size = 32
      · rw [if_pos (by omega)]
        have e : rightG x.f0.f0 (cutB x.f0.f1) (cutL x.f1) = sumsB (cutL x.f1) 17 := by unfold rightG; simp [h1, h2, show 0 ≤ x.f0.f0 from h0]
        rw [← e]; exact key
      · rw [if_neg (by omega)]
        have e : rightG x.f0.f0 (cutB x.f0.f1) (cutL x.f1) = false := by unfold rightG; simp [h2]
        rw [e] at key ⊢; exact key
    · rw [if_neg h1]
      have e : rightG x.f0.f0 (cutB x.f0.f1) (cutL x.f1) = false := by unfold rightG; simp [h1]
      rw [e] at key ⊢; exact key
  · rw [if_neg h0]
    have e : rightG x.f0.f0 (cutB x.f0.f1) (cutL x.f1) = false := by unfold rightG; simp [show ¬ 0 ≤ x.f0.f0 from h0]
    rw [e] at key ⊢; exact key
end Go.Proofs.Ytfegehfdbcnepaa.Pure
