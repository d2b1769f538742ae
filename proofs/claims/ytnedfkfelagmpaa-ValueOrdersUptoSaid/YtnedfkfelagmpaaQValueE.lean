/- Layer value in plain numbers: the statements' own bytes. -/
import Derived.Test.YtnedfkfelagmpaaQValueB
import Derived.Test.YtnedfkfelagmpaaPH04
namespace Go.Proofs.Ytnedfkfelagmpaa.Q
open Go.RowKit Go.Proofs.Ytnedfkfelagmpaa.PAll Go.Proofs.YtnedfkfelagmpaaW.PrintWords Go.Proofs.YtnedfkfelagmpaaW.PrintLast
set_option linter.unusedVariables false
set_option linter.unusedSimpArgs false
theorem val_eightL (m : Nat) (h : m < 18446744073709551616) : val 0 (eightL m) = m := by
  unfold eightL val
  simp only [List.foldl_cons, List.foldl_nil, UInt8.toNat_ofNat']
  omega
theorem eightL_val (d : List UInt8) (h : d.length = 8) : eightL (val 0 d) = d := by
  match d, h with
  | [a, b, c, d, e, f, g, i], _ =>
    have ha := a.toNat_lt
    have hb := b.toNat_lt
    have hc := c.toNat_lt
    have hd := d.toNat_lt
    have he := e.toNat_lt
    have hf := f.toNat_lt
    have hg := g.toNat_lt
    have hi := i.toNat_lt
    unfold eightL val
    simp only [List.foldl_cons, List.foldl_nil, List.cons.injEq, and_true]
    refine ⟨?_, ?_, ?_, ?_, ?_, ?_, ?_, ?_⟩ <;> (apply UInt8.toNat_inj.1; rw [UInt8.toNat_ofNat']; omega)
theorem valL_size (k : Int) (f : Bool) (n b : Int) (t : ByteArray) (ht : t.size ≤ 200) : (valL k f n b t).size ≤ 300 := by
  have h0 := numI_size k
  have h1 := textB_size t
  have h2 := flagB_size f
  unfold valL
  rw [ByteArray.size_append]
  split
  · omega
  · split
    · rw [size_B]; simp [eightL]; omega
    · split
      · rw [size_B]; simp [eightL]; omega
      · split
        · omega
        · rw [size_B]; simp; omega
/-! ## The statements' own bytes -/
theorem tmod_nat (n : Nat) : Int.tmod (n : Int) 256 = ((n % 256 : Nat) : Int) := by
  rw [Int.tmod_eq_emod_of_nonneg (by omega)]; omega
theorem tdiv_nat (n : Nat) : Int.tdiv (n : Int) 256 = ((n / 256 : Nat) : Int) := by
  rw [Int.tdiv_eq_ediv_of_nonneg (by omega)]; omega
theorem number_l0 : ∀ (k n : Nat) (s : ByteArray), n < 9223372036854775808 → (digs n).length < k → s.size + (digs n).length < 256 →
    chartularylaw04_number.l0 k (n : Int) s = some (B [UInt8.ofNat ((digs n).length + s.size)] ++ (B (digs n) ++ s)) := by
  intro k
  induction k with
  | zero => intro n s _ hn; omega
  | succ k ih =>
    intro n s h63 hn hs
    rcases Nat.eq_zero_or_pos n with rfl | hp
    · rw [chartularylaw04_number.l0, if_neg (by omega), bind_some', num_end s (by omega), if_pos (by rw [one_size]; omega), digs_zero, B_nil_append]
      simp
    · rw [digs_pos hp] at hn hs
      simp only [List.length_append, List.length_cons, List.length_nil] at hn hs
      rw [chartularylaw04_number.l0, if_pos (by omega), bind_some', if_pos (by rw [one_size]; omega)]
      rw [tdiv_nat, wrap64_id (by omega) (by omega), tmod_nat, show ((n % 256 : Nat) : Int) % 256 = ((n % 256 : Nat) : Int) from by omega, strOfNums_one _ (Nat.mod_lt _ (by omega))]
      rw [ih (n / 256) _ (by omega) (by omega) (by rw [ByteArray.size_append, size_B]; simp; omega)]
      rw [digs_pos hp, ByteArray.size_append, size_B]
      congr 1
      apply L_inj
      simp only [L_append, L_B, List.length_append, List.length_cons, List.length_nil, List.append_assoc]
      rw [show (digs (n / 256)).length + (0 + 1 + s.size) = (digs (n / 256)).length + (0 + 1) + s.size from by omega]
theorem number_ok (k : Nat) (hk : 12 ≤ k) (n : Nat) (h : n < 72057594037927936) : chartularylaw04_number.f k (n : Int) = some (numI (n : Int)) := by
  have hd := digs_length_le 7 n (by omega)
  unfold chartularylaw04_number.f
  rw [show (⟨#[]⟩ : ByteArray) = B [] from rfl, number_l0 k n (B []) (by omega) (by omega) (by rw [size_B]; simp; omega), numB_of, (numI_some (n := (n : Int)) (by omega) (by omega)).1]
  rfl
theorem leight_step (k n : Nat) (s : ByteArray) (i : Nat) (hi : i < 8) (hn : n < 18446744073709551616) (hs : s.size ≤ 100) :
    chartularylaw04_eight.l0 (k + 1) (n : Int) s (i : Int) = chartularylaw04_eight.l0 k ((n / 256 : Nat) : Int) (B [UInt8.ofNat (n % 256)] ++ s) ((i + 1 : Nat) : Int) := by
  rw [chartularylaw04_eight.l0, if_pos (by omega), bind_some', if_pos (by rw [one_size]; omega), tdiv_nat, u64_wrap, tmod_nat, show ((n / 256 : Nat) : Int) % 18446744073709551616 = ((n / 256 : Nat) : Int) from by omega,
    show ((n % 256 : Nat) : Int) % 256 = ((n % 256 : Nat) : Int) from by omega, strOfNums_one _ (Nat.mod_lt _ (by omega)), wrap64_id (by omega) (by omega), show ((i : Int) + 1) = ((i + 1 : Nat) : Int) from by omega]
theorem leight_ok (k n : Nat) (hk : 9 ≤ k) (h : n < 18446744073709551616) : chartularylaw04_eight.f k (n : Int) = some (B (eightL n)) := by
  obtain ⟨k, rfl⟩ : ∃ q, k = q + 9 := ⟨k - 9, by omega⟩
  unfold chartularylaw04_eight.f
  rw [show (⟨#[]⟩ : ByteArray) = B [] from rfl, show (0 : Int) = ((0 : Nat) : Int) from rfl]
  rw [leight_step (k + 8) n _ 0 (by omega) h (by rw [size_B]; simp)]
  rw [leight_step (k + 7) _ _ 1 (by omega) (by omega) (by simp only [ByteArray.size_append, size_B, List.length_cons, List.length_nil]; omega)]
  rw [leight_step (k + 6) _ _ 2 (by omega) (by omega) (by simp only [ByteArray.size_append, size_B, List.length_cons, List.length_nil]; omega)]
  rw [leight_step (k + 5) _ _ 3 (by omega) (by omega) (by simp only [ByteArray.size_append, size_B, List.length_cons, List.length_nil]; omega)]
  rw [leight_step (k + 4) _ _ 4 (by omega) (by omega) (by simp only [ByteArray.size_append, size_B, List.length_cons, List.length_nil]; omega)]
  rw [leight_step (k + 3) _ _ 5 (by omega) (by omega) (by simp only [ByteArray.size_append, size_B, List.length_cons, List.length_nil]; omega)]
  rw [leight_step (k + 2) _ _ 6 (by omega) (by omega) (by simp only [ByteArray.size_append, size_B, List.length_cons, List.length_nil]; omega)]
  rw [leight_step (k + 1) _ _ 7 (by omega) (by omega) (by simp only [ByteArray.size_append, size_B, List.length_cons, List.length_nil]; omega)]
  rw [chartularylaw04_eight.l0, if_neg (by decide)]
  rfl
theorem lbytes_ok (q : Nat) (hq : 20 ≤ q) (k : Int) (f : Bool) (n b : Int) (t : ByteArray) (h : rightV k f n b t = true) (h0 : 0 ≤ b) (h1 : b < 18446744073709551616) :
    chartularylaw04_bytes.f q k f n b t = some (valL k f n b t) := by
  obtain ⟨hk0, hk4, ht, _⟩ := rightV_facts h
  obtain ⟨m, rfl⟩ := Int.eq_ofNat_of_zero_le hk0
  have hnk := numI_size (m : Int)
  unfold chartularylaw04_bytes.f valL
  rw [number_ok q (by omega) m (by omega), bind_some']
  by_cases q1 : (m : Int) = 1
  · rw [if_pos q1, if_pos q1]
    cases f
    · rw [if_neg (by decide), if_pos (by omega)]; rfl
    · rw [if_pos rfl, if_pos (by omega)]; rfl
  rw [if_neg q1, if_neg q1]
  by_cases q2 : (m : Int) = 2
  · rw [if_pos q2, if_pos q2, u64_wrap]
    obtain ⟨z, hz⟩ := Int.eq_ofNat_of_zero_le (show 0 ≤ n % 18446744073709551616 from by omega)
    rw [hz, leight_ok q z (by omega) (by omega), bind_some', if_pos (by rw [size_B]; simp [eightL]; omega), Int.toNat_natCast]
  rw [if_neg q2, if_neg q2]
  by_cases q3 : (m : Int) = 3
  · rw [if_pos q3, if_pos q3]
    obtain ⟨z, rfl⟩ := Int.eq_ofNat_of_zero_le h0
    rw [leight_ok q z (by omega) (by omega), bind_some', if_pos (by rw [size_B]; simp [eightL]; omega), Int.toNat_natCast]
  rw [if_neg q3, if_neg q3]
  by_cases q4 : (m : Int) = 4
  · rw [if_pos q4, if_pos q4, number_ok q (by omega) t.size (by omega), bind_some']
    have := numI_size (t.size : Int)
    rw [if_pos (by omega), if_pos (by rw [ByteArray.size_append]; omega)]
    congr 1
    apply L_inj
    unfold textB
    simp only [L_append, List.append_assoc]
  rw [if_neg q4, if_neg q4, append_B_nil]
end Go.Proofs.Ytnedfkfelagmpaa.Q
