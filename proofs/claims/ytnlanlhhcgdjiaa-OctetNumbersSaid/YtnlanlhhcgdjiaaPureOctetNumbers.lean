/- OctetNumbers: for every number of 64 bits, and every text, the program's bytes of it are those that the statement reckons. No condition. -/
import Derived.Test.YtnlanlhhcgdjiaaPOctetNumbersx1
import Derived.Test.YtnlanlhhcgdjiaaQBase
namespace Go.Proofs.Ytnlanlhhcgdjiaa.Pure
open Go.RowKit Go.Proofs.Ytnlanlhhcgdjiaa.POctetNumbers Go.Proofs.YtnlanlhhcgdjiaaW.PrintWords Go.Proofs.YtnlanlhhcgdjiaaW.PrintLast Go.Proofs.Ytnlanlhhcgdjiaa.Q
set_option linter.unusedVariables false
set_option linter.unusedSimpArgs false

theorem num_end (s : ByteArray) (h : s.size < 256) : strOfNums [((s.size : Int)) % 256] ++ s = B [UInt8.ofNat s.size] ++ s := by
  rw [show ((s.size : Int)) % 256 = ((s.size : Nat) : Int) from by omega, strOfNums_one _ h]

theorem octet_l0 (k : Nat) : ∀ (n : Nat) (s : ByteArray), n < 256 ^ k → s.size + k < 256 →
    octet_Num.l0 (k + 1) (n : Int) s = some (B [UInt8.ofNat ((digs n).length + s.size)] ++ (B (digs n) ++ s)) := by
  induction k with
  | zero =>
    intro n s hn hs
    obtain rfl : n = 0 := by omega
    simp only [octet_Num.l0]
    rw [if_neg (by omega)]
    simp only [Option.bind_some]
    rw [num_end s (by omega), if_pos (by rw [show (strOfNums [(s.size : Int) % 256]).size = 1 from rfl]; omega), digs_zero]
    rw [show B [] ++ s = s from by apply L_inj; rw [L_append]; rfl]
    simp
  | succ k ih =>
    intro n s hn hs
    rcases Nat.eq_zero_or_pos n with rfl | hp
    · simp only [octet_Num.l0]
      rw [if_neg (by omega)]
      simp only [Option.bind_some]
      rw [num_end s (by omega), if_pos (by rw [show (strOfNums [(s.size : Int) % 256]).size = 1 from rfl]; omega), digs_zero]
      rw [show B [] ++ s = s from by apply L_inj; rw [L_append]; rfl]
      simp
    · rw [octet_Num.l0]
      rw [if_pos (by omega)]
      simp only [Option.bind_some]
      rw [if_pos (by rw [show (strOfNums [(n : Int) % 256]).size = 1 from rfl]; omega)]
      rw [show ((n : Int) / 256) = ((n / 256 : Nat) : Int) from by omega, show ((n : Int)) % 256 = ((n % 256 : Nat) : Int) from by omega, strOfNums_one _ (Nat.mod_lt _ (by omega))]
      rw [ih (n / 256) _ (by rw [Nat.pow_succ] at hn; omega) (by rw [ByteArray.size_append, size_B]; simp; omega)]
      rw [digs_pos hp, ByteArray.size_append, size_B]
      congr 1
      apply L_inj
      simp only [L_append, L_B, List.length_append, List.length_cons, List.length_nil, List.append_assoc]
      rw [show (digs (n / 256)).length + (0 + 1 + s.size) = (digs (n / 256)).length + (0 + 1) + s.size from by omega]

theorem law_l0 (k : Nat) : ∀ (n : Nat) (s : ByteArray), n < 256 ^ k → n < 2 ^ 63 → s.size + k < 256 →
    chartularylaw01_num.l0 (k + 1) (n : Int) s = some (B [UInt8.ofNat ((digs n).length + s.size)] ++ (B (digs n) ++ s)) := by
  induction k with
  | zero =>
    intro n s hn hb hs
    obtain rfl : n = 0 := by omega
    simp only [chartularylaw01_num.l0]
    rw [if_neg (by omega)]
    simp only [Option.bind_some]
    rw [num_end s (by omega), if_pos (by rw [show (strOfNums [(s.size : Int) % 256]).size = 1 from rfl]; omega), digs_zero]
    rw [show B [] ++ s = s from by apply L_inj; rw [L_append]; rfl]
    simp
  | succ k ih =>
    intro n s hn hb hs
    rcases Nat.eq_zero_or_pos n with rfl | hp
    · simp only [chartularylaw01_num.l0]
      rw [if_neg (by omega)]
      simp only [Option.bind_some]
      rw [num_end s (by omega), if_pos (by rw [show (strOfNums [(s.size : Int) % 256]).size = 1 from rfl]; omega), digs_zero]
      rw [show B [] ++ s = s from by apply L_inj; rw [L_append]; rfl]
      simp
    · rw [chartularylaw01_num.l0]
      rw [if_pos (by omega)]
      simp only [Option.bind_some]
      rw [if_pos (by rw [show (strOfNums [Int.tmod (n : Int) 256 % 256]).size = 1 from rfl]; omega)]
      rw [show wrap64 (Int.tdiv (n : Int) 256) = ((n / 256 : Nat) : Int) from by rw [Int.tdiv_eq_ediv_of_nonneg (by omega)]; unfold wrap64; omega,
        show (Int.tmod (n : Int) 256) % 256 = ((n % 256 : Nat) : Int) from by rw [Int.tmod_eq_emod_of_nonneg (by omega)]; omega, strOfNums_one _ (Nat.mod_lt _ (by omega))]
      rw [ih (n / 256) _ (by rw [Nat.pow_succ] at hn; omega) (by omega) (by rw [ByteArray.size_append, size_B]; simp; omega)]
      rw [digs_pos hp, ByteArray.size_append, size_B]
      congr 1
      apply L_inj
      simp only [L_append, L_B, List.length_append, List.length_cons, List.length_nil, List.append_assoc]
      rw [show (digs (n / 256)).length + (0 + 1 + s.size) = (digs (n / 256)).length + (0 + 1) + s.size from by omega]

theorem numB_of (n : Nat) : B [UInt8.ofNat ((digs n).length + (B []).size)] ++ (B (digs n) ++ B []) = B (numL n) := by
  apply L_inj; simp [L_append, L_B, numL]; rfl

theorem octet_num (n : Int) : octet_Num.f 12 n = some (numI n) := by
  unfold octet_Num.f numI
  by_cases h : n < 0
  · rw [if_pos h, if_pos (.inl h)]; rfl
  · rw [if_neg h]
    by_cases h2 : n ≥ 72057594037927936
    · rw [decide_eq_true h2, if_pos (.inr h2)]; rfl
    · rw [decide_eq_false h2, if_neg (by omega)]
      rw [octet_Num.j0, if_neg (by decide)]
      obtain ⟨m, rfl⟩ := Int.eq_ofNat_of_zero_le (show 0 ≤ n by omega)
      rw [show (⟨#[]⟩ : ByteArray) = B [] from rfl, octet_l0 10 m (B []) (by omega) (by decide), numB_of]
      rfl

theorem law_num (n : Int) : chartularylaw01_num.f 12 n = some (numI n) := by
  unfold chartularylaw01_num.f numI
  by_cases h : n < 0
  · rw [if_pos h, if_pos (.inl h)]; rfl
  · rw [if_neg h]
    by_cases h2 : n ≥ 72057594037927936
    · rw [decide_eq_true h2, if_pos (.inr h2)]; rfl
    · rw [decide_eq_false h2, if_neg (by omega)]
      rw [chartularylaw01_num.j0, if_neg (by decide)]
      obtain ⟨m, rfl⟩ := Int.eq_ofNat_of_zero_le (show 0 ≤ n by omega)
      rw [show (⟨#[]⟩ : ByteArray) = B [] from rfl, law_l0 10 m (B []) (by omega) (by omega) (by decide), numB_of]
      rfl

theorem numI_size (n : Int) : (numI n).size ≤ 8 := by
  unfold numI
  split
  · decide
  · rw [size_B]
    unfold numL
    have := digs_length_le 7 n.toNat (by omega)
    simp; omega

theorem octet_text (s : ByteArray) (h : s.size ≤ 140737488351232) : octet_Text.f 12 s = some (numI s.size ++ s) := by
  unfold octet_Text.f
  rw [octet_num]
  simp only [Option.bind_some]
  have := numI_size s.size
  rw [if_pos (by omega)]

theorem awake_true : chartularylaw01_awake.f 12 = some true := by
  unfold chartularylaw01_awake.f
  rw [octet_num, octet_num, octet_text _ (by decide)]
  simp only [Option.bind_some, toList_eq]
  rw [if_pos (by simp [numI, numL, L_B, digs_zero])]
  rw [if_pos (by simp [numI, numL, L_B, digs_pos (n := 258) (by omega), digs_pos (n := 1) (by omega), digs_zero])]
  simp [numI, L_append, numL, L_B, digs_pos (n := 2) (by omega), digs_zero, ByteArray.size]
  rfl

/-- OctetNumbers, in plain numbers and lists. -/
theorem OctetNumbers : chartularylaw01_OctetNumbers.Pure := by
  intro n s _ hs
  refine ⟨12, ?_⟩
  unfold chartularylaw01_OctetNumbers.f
  rw [octet_num, law_num, octet_text s hs, law_num, awake_true]
  have := numI_size s.size
  simp only [Option.bind_some, if_true]
  rw [if_pos (by omega)]

end Go.Proofs.Ytnlanlhhcgdjiaa.Pure
