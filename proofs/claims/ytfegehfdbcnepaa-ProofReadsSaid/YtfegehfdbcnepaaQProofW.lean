/- Layer proof's growths as bytes, in plain lists. -/
import Derived.Test.YtfegehfdbcnepaaPProof
import Derived.Test.YtfegehfdbcnepaaPH19
import Derived.Test.YtfegehfdbcnepaaQWriter0
import Derived.Test.YtfegehfdbcnepaaQReader2
namespace Go.Proofs.Ytfegehfdbcnepaa.Q
open Go.RowKit Go.Proofs.Ytfegehfdbcnepaa.PAll Go.Proofs.YtfegehfdbcnepaaW.PrintWords Go.Proofs.YtfegehfdbcnepaaW.PrintLast
set_option linter.unusedVariables false
set_option linter.unusedSimpArgs false

def sumsB (l : List ByteArray) (most : Int) : Bool := l.all (fun a => decide (a.size = 32)) && decide ((l.length : Int) ≤ most)
theorem psums_loop (l : List ByteArray) (most : Int) (hl : l.length ≤ 1152921504606846976) : ∀ (m k i : Nat), l.length - i = m → m < k → i ≤ l.length →
    proof_sums.l0 k l most l (l.length : Int) (i : Int) = some ((l.drop i).all (fun a => decide (a.size = 32)) && decide ((l.length : Int) ≤ most)) := by
  intro m
  induction m with
  | zero =>
    intro k i hm hk hi
    obtain ⟨k, rfl⟩ : ∃ q, k = q + 1 := ⟨k - 1, by omega⟩
    rw [proof_sums.l0, if_neg (by omega), List.drop_of_length_le (by omega)]
    rfl
  | succ m ih =>
    intro k i hm hk hi
    obtain ⟨k, rfl⟩ : ∃ q, k = q + 1 := ⟨k - 1, by omega⟩
    have hlt : i < l.length := by omega
    rw [proof_sums.l0, if_pos (by omega), if_pos (by omega), if_pos (by omega), rd_getElem l i hlt, List.drop_eq_getElem_cons hlt]
    by_cases h : l[i].size = 32
    · rw [if_pos (by omega), wrap64_id (by omega) (by omega), show ((i : Int) + 1) = ((i + 1 : Nat) : Int) from by omega, ih k (i + 1) (by omega) (by omega) (by omega), List.all_cons, decide_eq_true h, Bool.true_and]
    · rw [if_neg (by omega), List.all_cons, decide_eq_false h, Bool.false_and, Bool.false_and]
theorem proof_sums_ok (k : Nat) (l : List ByteArray) (most : Int) (hk : l.length < k) (hl : l.length ≤ 1152921504606846976) : proof_sums.f k l most = some (sumsB l most) := by
  have h := psums_loop l most hl l.length k 0 (by omega) hk (by omega)
  unfold proof_sums.f sumsB
  rw [show (0 : Int) = ((0 : Nat) : Int) from rfl, h, List.drop_zero]
/-- May a growth be? -/
def rightG (n : Int) (root : ByteArray) (path : List ByteArray) : Bool := decide (0 ≤ n) && decide (n ≤ 65536) && decide (root.size = 32) && sumsB path 17
theorem rightG_ok (k : Nat) (n : Int) (root : ByteArray) (path : List ByteArray) (hk : path.length < k) (hl : path.length ≤ 1152921504606846976) : proof_RightGrowth.f k n root path = some (rightG n root path) := by
  unfold proof_RightGrowth.f rightG
  rw [proof_sums_ok k path 17 hk hl]
  by_cases h0 : n ≥ 0
  · rw [if_pos h0]
    by_cases h1 : n ≤ 65536
    · rw [if_pos h1]
      by_cases h2 : root.size = 32
      · rw [if_pos (by omega)]; simp [h0, h1, h2]
      · rw [if_neg (by omega)]; simp [h2]
    · rw [if_neg h1]; simp [h1]
  · rw [if_neg h0]; simp [show ¬ 0 ≤ n from h0]
theorem rightG_iff {n : Int} {root : ByteArray} {path : List ByteArray} (h : rightG n root path = true) : 0 ≤ n ∧ n ≤ 65536 ∧ root.size = 32 ∧ (∀ a ∈ path, a.size = 32) ∧ path.length ≤ 17 := by
  unfold rightG sumsB at h
  simp only [Bool.and_eq_true, decide_eq_true_eq, List.all_eq_true] at h
  obtain ⟨⟨⟨h0, h1⟩, h2⟩, h3, h4⟩ := h
  exact ⟨h0, h1, h2, h3, by omega⟩
/-- A growth's bytes. -/
def growB (n : Int) (root : ByteArray) (path : List ByteArray) : ByteArray := numI n ++ (textB root ++ (numI path.length ++ textsB path))
theorem grow_ok (k : Nat) (n : Int) (root : ByteArray) (path : List ByteArray) (hk : 60 ≤ k) (hk2 : path.length + 13 ≤ k) (hl : path.length ≤ 1152921504606846976) :
    proof_GrowthBytes.f k n root path = some (if rightG n root path = true then growB n root path else B []) := by
  unfold proof_GrowthBytes.f
  rw [rightG_ok k n root path (by omega) hl]
  simp only [bind_some']
  by_cases h : rightG n root path = true
  · rw [if_pos h, if_pos h]
    obtain ⟨h0, h1, h2, h3, h4⟩ := rightG_iff h
    have hn := numI_some (n := n) h0 (by omega)
    have hp := numI_some (n := (path.length : Int)) (by omega) (by omega)
    have s1 := numI_size n
    have s2 := textB_size root
    have s3 := room_le path 32 (fun a ha => by rw [h3 a ha]; exact Nat.le_refl _)
    have s4 : path.length * (32 + 8) ≤ 17 * 40 := Nat.mul_le_mul h4 (by omega)
    rw [empty_B, writer_num k (by omega) (B []) false n (by rw [size_B]; simp), hn.2]
    simp only [bind_some', B_nil_append]
    rw [writer_text k (by omega) _ _ _ (by omega)]
    simp only [bind_some']
    rw [writer_texts k path (by omega) _ _ (by rw [ByteArray.size_append]; omega) hl, hp.2]
    simp only [bind_some', Bool.or_false, Bool.or_self]
    rw [writer_all]
    simp only [bind_some', Bool.false_eq_true, if_false]
    unfold growB
    rw [BA_assoc, BA_assoc]
  · rw [if_neg h, if_neg h]; rfl
theorem list_loop (l : List ByteArray) (hl : l.length ≤ 1152921504606846976) : ∀ (m k i : Nat) (s : ByteArray), l.length - i = m → m + 12 < k → i ≤ l.length → s.size + room (l.drop i) ≤ 9223372036854774000 →
    chartularylaw19_list.l0 k l s (i : Int) = some (s ++ textsB (l.drop i)) := by
  intro m
  induction m with
  | zero =>
    intro k i s hm hk hi hs
    obtain ⟨k, rfl⟩ : ∃ q, k = q + 1 := ⟨k - 1, by omega⟩
    rw [chartularylaw19_list.l0, if_neg (by omega), List.drop_of_length_le (by omega)]
    rw [show textsB [] = B [] from rfl, append_B_nil]
  | succ m ih =>
    intro k i s hm hk hi hs
    obtain ⟨k, rfl⟩ : ∃ q, k = q + 1 := ⟨k - 1, by omega⟩
    have hlt : i < l.length := by omega
    rw [List.drop_eq_getElem_cons hlt] at hs ⊢
    simp only [room] at hs
    have := textB_size l[i]
    rw [chartularylaw19_list.l0, if_pos (by omega), if_pos (by omega), rd_getElem l i hlt, octet_text' k (by omega) _ (by omega)]
    simp only [bind_some']
    rw [if_pos (by omega), wrap64_id (by omega) (by omega), show ((i : Int) + 1) = ((i + 1 : Nat) : Int) from by omega]
    rw [ih k (i + 1) _ (by omega) (by omega) (by omega) (by rw [ByteArray.size_append]; omega)]
    rw [BA_assoc]
    rfl
theorem list_ok (k : Nat) (l : List ByteArray) (hk : l.length + 13 ≤ k) (hs : room l ≤ 9223372036854773000) (hl : l.length ≤ 1152921504606846976) :
    chartularylaw19_list.f k l = some (numI l.length ++ textsB l) := by
  unfold chartularylaw19_list.f
  rw [octet_num k (by omega)]
  simp only [bind_some']
  have := numI_size (l.length : Int)
  have h := list_loop l hl l.length k 0 (numI l.length) (by omega) (by omega) (by omega) (by rw [List.drop_zero]; omega)
  rw [List.drop_zero] at h
  exact h
theorem numI_size0 : (numI 0).size = 1 := by
  rw [(numI_some (n := 0) (by omega) (by omega)).1, size_B, numL, Int.toNat_zero, digs_zero]; rfl
theorem numI_size32 : (numI 32).size = 2 := by
  rw [(numI_some (n := 32) (by omega) (by omega)).1, size_B, numL, show (32 : Int).toNat = 32 from rfl, digs_pos (n := 32) (by omega), show 32 / 256 = 0 from rfl, digs_zero]; rfl
theorem awake_size (z : ByteArray) (hz : z.size = 32) : (growB 0 z []).size = 36 := by
  unfold growB textB
  rw [ByteArray.size_append, ByteArray.size_append, ByteArray.size_append, ByteArray.size_append, hz, numI_size0]
  rw [show ((32 : Nat) : Int) = 32 from rfl, numI_size32, show (([] : List ByteArray).length : Int) = 0 from rfl, numI_size0]
  rfl
theorem awake_right (z : ByteArray) (hz : z.size = 32) : rightG 0 z [] = true := by
  unfold rightG sumsB
  rw [hz]
  simp
theorem proof_awake (k : Nat) (hk : 60 ≤ k) : chartularylaw19_awake.f k = some true := by
  unfold chartularylaw19_awake.f
  have hs : (strOfNums (List.replicate 32 0)).size = 32 := by unfold strOfNums; simp [ByteArray.size]
  generalize strOfNums (List.replicate 32 0) = z at hs ⊢
  rw [if_pos (by omega), grow_ok k 0 z [] hk (by simp; omega) (by simp)]
  simp only [bind_some']
  rw [if_pos (awake_right z hs), awake_size z hs]
  rfl
end Go.Proofs.Ytfegehfdbcnepaa.Q
