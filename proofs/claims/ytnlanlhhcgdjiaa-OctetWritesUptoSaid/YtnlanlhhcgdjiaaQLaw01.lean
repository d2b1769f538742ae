/- The helpers of layer octet's statements in plain lists: items laid. -/
import Derived.Test.YtnlanlhhcgdjiaaQWriter
import Derived.Test.YtnlanlhhcgdjiaaQWriter0
import Derived.Test.YtnlanlhhcgdjiaaPH01
namespace Go.Proofs.Ytnlanlhhcgdjiaa.Q
open Go.RowKit Go.Proofs.Ytnlanlhhcgdjiaa.PAll Go.Proofs.YtnlanlhhcgdjiaaW.PrintWords Go.Proofs.YtnlanlhhcgdjiaaW.PrintLast
set_option linter.unusedVariables false
set_option linter.unusedSimpArgs false
theorem tmod_nat (n : Nat) : Int.tmod (n : Int) 256 = ((n % 256 : Nat) : Int) := by
  rw [Int.tmod_eq_emod_of_nonneg (by omega)]; omega
theorem tdiv_nat (n : Nat) : Int.tdiv (n : Int) 256 = ((n / 256 : Nat) : Int) := by
  rw [Int.tdiv_eq_ediv_of_nonneg (by omega)]; omega
theorem lnum_l0 : ∀ (k n : Nat) (s : ByteArray), n < 9223372036854775808 → (digs n).length < k → s.size + (digs n).length < 256 →
    chartularylaw01_num.l0 k (n : Int) s = some (B [UInt8.ofNat ((digs n).length + s.size)] ++ (B (digs n) ++ s)) := by
  intro k
  induction k with
  | zero => intro n s _ hn; omega
  | succ k ih =>
    intro n s h63 hn hs
    rcases Nat.eq_zero_or_pos n with rfl | hp
    · rw [chartularylaw01_num.l0, if_neg (by omega), bind_some', num_end s (by omega), if_pos (by rw [one_size]; omega), digs_zero, B_nil_append]
      simp
    · rw [digs_pos hp] at hn hs
      simp only [List.length_append, List.length_cons, List.length_nil] at hn hs
      rw [chartularylaw01_num.l0, if_pos (by omega), bind_some', if_pos (by rw [one_size]; omega)]
      rw [tdiv_nat, wrap64_id (by omega) (by omega), tmod_nat, show ((n % 256 : Nat) : Int) % 256 = ((n % 256 : Nat) : Int) from by omega, strOfNums_one _ (Nat.mod_lt _ (by omega))]
      rw [ih (n / 256) _ (by omega) (by omega) (by rw [ByteArray.size_append, size_B]; simp; omega)]
      rw [digs_pos hp, ByteArray.size_append, size_B]
      congr 1
      apply L_inj
      simp only [L_append, L_B, List.length_append, List.length_cons, List.length_nil, List.append_assoc]
      rw [show (digs (n / 256)).length + (0 + 1 + s.size) = (digs (n / 256)).length + (0 + 1) + s.size from by omega]
theorem lnum_ok (k : Nat) (hk : 13 ≤ k) (n : Int) : chartularylaw01_num.f k n = some (numI n) := by
  obtain ⟨k, rfl⟩ : ∃ q, k = q + 1 := ⟨k - 1, by omega⟩
  unfold chartularylaw01_num.f
  by_cases h0 : n < 0
  · rw [if_pos h0, chartularylaw01_num.j0, if_pos rfl]
    unfold numI
    rw [if_pos (.inl h0)]; rfl
  · rw [if_neg h0]
    by_cases h1 : n ≥ 72057594037927936
    · rw [decide_eq_true h1, chartularylaw01_num.j0, if_pos rfl]
      unfold numI
      rw [if_pos (.inr h1)]; rfl
    · obtain ⟨m, rfl⟩ := Int.eq_ofNat_of_zero_le (show 0 ≤ n by omega)
      have hd := digs_length_le 7 m (by omega)
      rw [decide_eq_false h1, chartularylaw01_num.j0, if_neg (by decide), show (⟨#[]⟩ : ByteArray) = B [] from rfl, lnum_l0 k m (B []) (by omega) (by omega) (by rw [size_B]; simp; omega), numB_of, (numI_some (n := (m : Int)) (by omega) (by omega)).1]
      rfl
/-- What an item is laid as. -/
def itemL (x : S34) : ByteArray := if x.f0 = 0 then numI x.f1 else if x.f0 = 1 then textB x.f2 else if x.f0 = 2 then flagB x.f3 else if x.f0 = 3 then x.f2 else numI x.f4.length ++ textsB x.f4
/-- Has an item bytes? -/
def itemOk (x : S34) : Bool := if x.f0 = 0 then !(L (numI x.f1)).isEmpty else true
def itemRoom (x : S34) : Nat := x.f2.size + room x.f4 + 20
theorem itemL_size (x : S34) : (itemL x).size ≤ itemRoom x := by
  have h0 := numI_size x.f1
  have h1 := textB_size x.f2
  have h2 := flagB_size x.f3
  have h3 := numI_size (x.f4.length : Int)
  have h4 := textsB_size x.f4
  unfold itemL itemRoom
  split
  · omega
  · split
    · omega
    · split
      · omega
      · split
        · omega
        · rw [ByteArray.size_append]; omega
theorem laid_loop (l : List ByteArray) (hl : l.length ≤ 1152921504606846976) (a b : Int) (t : ByteArray) (f : Bool) : ∀ (m k i : Nat) (s : ByteArray), l.length - i = m → m + 14 < k → i ≤ l.length → s.size + room (l.drop i) ≤ 9223372036854774000 →
    chartularylaw01_laid.l0 k s (i : Int) a b t f l = some (s ++ textsB (l.drop i), true) := by
  intro m
  induction m with
  | zero =>
    intro k i s hm hk hi hs
    obtain ⟨k, rfl⟩ : ∃ q, k = q + 1 := ⟨k - 1, by omega⟩
    rw [chartularylaw01_laid.l0, if_neg (by omega), List.drop_of_length_le (by omega)]
    rw [show textsB [] = B [] from rfl, append_B_nil]
  | succ m ih =>
    intro k i s hm hk hi hs
    obtain ⟨k, rfl⟩ : ∃ q, k = q + 1 := ⟨k - 1, by omega⟩
    have hlt : i < l.length := by omega
    rw [List.drop_eq_getElem_cons hlt] at hs ⊢
    simp only [room] at hs
    have := numI_size (l[i].size : Int)
    rw [chartularylaw01_laid.l0, if_pos (by omega), if_pos (by omega), rd_getElem l i hlt, lnum_ok k (by omega), bind_some', if_pos (by omega), if_pos (by rw [ByteArray.size_append]; omega), wrap64_id (by omega) (by omega), show ((i : Int) + 1) = ((i + 1 : Nat) : Int) from by omega]
    rw [ih k (i + 1) _ (by omega) (by omega) (by omega) (by rw [ByteArray.size_append, ByteArray.size_append]; omega)]
    rw [BA_assoc, BA_assoc]
    unfold textsB textB
    rw [BA_assoc]
    cases l.drop (i + 1) <;> rfl
theorem laid_ok (k : Nat) (x : S34) (hk : x.f4.length + 20 ≤ k) (hs : itemRoom x ≤ 9223372036854770000) (hl : x.f4.length ≤ 1152921504606846976) :
    chartularylaw01_laid.f k x.f0 x.f1 x.f2 x.f3 x.f4 = some (itemL x, itemOk x) := by
  unfold itemRoom at hs
  unfold chartularylaw01_laid.f itemL itemOk
  by_cases q0 : x.f0 = 0
  · simp only [if_pos q0]
    rw [lnum_ok k (by omega), bind_some', bind_some', toList_eq]
  simp only [if_neg q0]
  by_cases q1 : x.f0 = 1
  · simp only [if_pos q1]
    have := numI_size (x.f2.size : Int)
    rw [lnum_ok k (by omega), bind_some', if_pos (by omega)]
    rfl
  simp only [if_neg q1]
  by_cases q2 : x.f0 = 2
  · simp only [if_pos q2]
    cases x.f3 <;> rfl
  simp only [if_neg q2]
  by_cases q3 : x.f0 = 3
  · simp only [if_pos q3]
  simp only [if_neg q3]
  have := numI_size (x.f4.length : Int)
  rw [lnum_ok k (by omega), bind_some']
  have h := laid_loop x.f4 hl x.f0 x.f1 x.f2 x.f3 x.f4.length k 0 (numI x.f4.length) rfl (by omega) (by omega) (by rw [List.drop_zero]; omega)
  rw [List.drop_zero] at h
  exact h
theorem lay_ok (k : Nat) (s : ByteArray) (no : Bool) (x : S34) (hk : x.f4.length + 20 ≤ k) (hs : s.size + itemRoom x ≤ 9223372036854770000) (hl : x.f4.length ≤ 1152921504606846) :
    chartularylaw01_lay.f k s no x.f0 x.f1 x.f2 x.f3 x.f4 = some (s ++ itemL x, no || !itemOk x) := by
  unfold itemRoom at hs
  unfold chartularylaw01_lay.f itemL itemOk
  by_cases q0 : x.f0 = 0
  · simp only [if_pos q0]
    rw [writer_num k (by omega) s no x.f1 (by omega), bind_some', Bool.not_not]
  simp only [if_neg q0]
  by_cases q1 : x.f0 = 1
  · simp only [if_pos q1]
    rw [writer_text k (by omega) s no x.f2 (by omega), bind_some', Bool.not_true, Bool.or_false]
  simp only [if_neg q1]
  by_cases q2 : x.f0 = 2
  · simp only [if_pos q2]
    rw [w_flag s no x.f3 (by omega), bind_some', Bool.not_true, Bool.or_false]
  simp only [if_neg q2]
  by_cases q3 : x.f0 = 3
  · simp only [if_pos q3]
    unfold octet_Writer_Raw.f
    rw [if_pos (by omega), bind_some', Bool.not_true, Bool.or_false]
  simp only [if_neg q3]
  rw [writer_texts k x.f4 (by omega) s no (by omega) (by omega), bind_some', BA_assoc, (numI_some (n := (x.f4.length : Int)) (by omega) (by omega)).2]
  rfl
theorem awake_ok (k : Nat) (hk : 12 ≤ k) : chartularylaw01_awake.f k = some true := by
  unfold chartularylaw01_awake.f
  rw [octet_num k hk, octet_num k hk, octet_text k hk _ (by decide)]
  simp only [Option.bind_some, toList_eq]
  rw [if_pos (by simp [numI, numL, L_B, digs_zero])]
  rw [if_pos (by simp [numI, numL, L_B, digs_pos (n := 258) (by omega), digs_pos (n := 1) (by omega), digs_zero])]
  simp [numI, L_append, numL, L_B, digs_pos (n := 2) (by omega), digs_zero, ByteArray.size]
  rfl
theorem rd_item (l : List S34) (i : Nat) (h : i < l.length) : rd_T34 l (i : Int) = l[i] := by
  unfold rd_T34
  simp [h]
theorem room_bulks (l : List ByteArray) (b : List ByteArray → Nat) (h0 : b [] = 1) (h1 : ∀ x l, b (x :: l) = (x.size + 1) + b l) : room l ≤ 8 * b l := by
  induction l with
  | nil => simp [room]
  | cons x l ih => rw [h1]; simp only [room]; omega
end Go.Proofs.Ytnlanlhhcgdjiaa.Q
