/- Layer value in plain numbers: the bytes of a value. -/
import Derived.Test.YtabdmnoejoiboaaQValueA0
import Derived.Test.YtabdmnoejoiboaaQWriter
import Derived.Test.YtabdmnoejoiboaaQTexts
import Derived.Test.YtabdmnoejoiboaaPValue
import Derived.Test.YtabdmnoejoiboaaPOctet
namespace Go.Proofs.Ytabdmnoejoiboaa.Q
open Go.RowKit Go.Proofs.Ytabdmnoejoiboaa.PAll Go.Proofs.YtabdmnoejoiboaaW.PrintWords Go.Proofs.YtabdmnoejoiboaaW.PrintLast
set_option linter.unusedVariables false
set_option linter.unusedSimpArgs false
/-- A number's eight bytes, the highest first. -/
def eightL (a : Nat) : List UInt8 := [UInt8.ofNat (a / 256 / 256 / 256 / 256 / 256 / 256 / 256 % 256), UInt8.ofNat (a / 256 / 256 / 256 / 256 / 256 / 256 % 256), UInt8.ofNat (a / 256 / 256 / 256 / 256 / 256 % 256), UInt8.ofNat (a / 256 / 256 / 256 / 256 % 256),
  UInt8.ofNat (a / 256 / 256 / 256 % 256), UInt8.ofNat (a / 256 / 256 % 256), UInt8.ofNat (a / 256 % 256), UInt8.ofNat (a % 256)]
theorem eight_step (k a : Nat) (xs : List Int) (i : Nat) (hi : i < 8) (hx : xs.length = 8) :
    value_eight.l0 (k + 1) (a : Int) xs 8 (i : Int) = value_eight.l0 k (a : Int) (xs.set i (((a / 2 ^ (56 - 8 * i) % 256 : Nat) : Int))) 8 ((i + 1 : Nat) : Int) := by
  have w1 : wrap64 (8 * (i : Int)) = ((8 * i : Nat) : Int) := by unfold wrap64; omega
  have w2 : wrap64 (56 - ((8 * i : Nat) : Int)) = ((56 - 8 * i : Nat) : Int) := by unfold wrap64; omega
  have w3 : wrap64 ((i : Int) + 1) = ((i + 1 : Nat) : Int) := by unfold wrap64; omega
  rw [value_eight.l0, if_pos (by omega), w1, w2, if_pos (by omega), if_pos (by omega), if_pos (by omega), w3]
  have : shr .u64 (a : Int) ((56 - 8 * i : Nat) : Int) % 256 = ((a / 2 ^ (56 - 8 * i) % 256 : Nat) : Int) := by
    unfold shr
    rw [Int.toNat_natCast, Nat.min_eq_left (show 56 - 8 * i ≤ IntKind.u64.bits from by simp [IntKind.bits]; omega)]
    simp
  rw [this, Int.toNat_natCast]
theorem eight_ok (k a : Nat) (hk : 9 ≤ k) : value_eight.f k (a : Int) = some (B (eightL a)) := by
  obtain ⟨k, rfl⟩ : ∃ q, k = q + 9 := ⟨k - 9, by omega⟩
  unfold value_eight.f
  rw [if_pos (by decide), bind_some']
  have s0 := eight_step (k + 8) a (List.replicate 8 0) 0 (by omega) rfl
  have s1 := fun xs hx => eight_step (k + 7) a xs 1 (by omega) hx
  have s2 := fun xs hx => eight_step (k + 6) a xs 2 (by omega) hx
  have s3 := fun xs hx => eight_step (k + 5) a xs 3 (by omega) hx
  have s4 := fun xs hx => eight_step (k + 4) a xs 4 (by omega) hx
  have s5 := fun xs hx => eight_step (k + 3) a xs 5 (by omega) hx
  have s6 := fun xs hx => eight_step (k + 2) a xs 6 (by omega) hx
  have s7 := fun xs hx => eight_step (k + 1) a xs 7 (by omega) hx
  rw [show (((List.replicate 8 (0 : Int)).length : Nat) : Int) = 8 from rfl, show (0 : Int) = ((0 : Nat) : Int) from rfl]
  refine s0.trans ((s1 _ (by simp)).trans ((s2 _ (by simp)).trans ((s3 _ (by simp)).trans ((s4 _ (by simp)).trans ((s5 _ (by simp)).trans ((s6 _ (by simp)).trans ((s7 _ (by simp)).trans ?_)))))))
  rw [value_eight.l0, if_neg (by decide)]
  congr 1
  apply L_inj
  unfold eightL
  rw [L_B]
  simp only [Nat.div_div_eq_div_mul, Nat.reduceMul]
  simp [strOfNums, L, List.replicate]
  exact ⟨rfl, rfl, rfl, rfl, rfl, rfl, rfl, rfl⟩
/-- A value as it is laid. -/
def valL (k : Int) (f : Bool) (n b : Int) (t : ByteArray) : ByteArray :=
  numI k ++ (if k = 1 then flagB f else if k = 2 then B (eightL (n % 18446744073709551616).toNat) else if k = 3 then B (eightL b.toNat) else if k = 4 then textB t else B [])
theorem raw_w (s : ByteArray) (no : Bool) (a : ByteArray) (hs : s.size + a.size ≤ 9223372036854775807) : octet_Writer_Raw.f s no a = some (s ++ a, no) := by
  unfold octet_Writer_Raw.f
  rw [if_pos hs]
theorem valbytes_ok (q : Nat) (hq : 20 ≤ q) (k : Int) (f : Bool) (n b : Int) (t : ByteArray) (h0 : 0 ≤ b) (h1 : b < 18446744073709551616) :
    value_Bytes.f q k f n b t = some (if rightV k f n b t = true then valL k f n b t else B []) := by
  unfold value_Bytes.f
  rw [right_ok k f n b t h0 h1, bind_some']
  by_cases h : rightV k f n b t = true
  · rw [if_pos h, if_pos h]
    obtain ⟨hk0, hk4, ht, _⟩ := rightV_facts h
    have hnk := numI_size k
    rw [show (⟨#[]⟩ : ByteArray) = B [] from rfl, w_num q (by omega) (B []) k (by rw [size_B]; simp) (by omega) (by omega), bind_some', B_nil_append]
    dsimp only
    unfold valL
    by_cases q1 : k = 1
    · rw [if_pos q1, if_pos q1, w_flag _ _ _ (by omega), bind_some', w_all]; rfl
    rw [if_neg q1, if_neg q1]
    by_cases q2 : k = 2
    · rw [if_pos q2, if_pos q2, u64_wrap]
      obtain ⟨m, hm⟩ := Int.eq_ofNat_of_zero_le (show 0 ≤ n % 18446744073709551616 from by omega)
      rw [hm, eight_ok q m (by omega), bind_some', raw_w _ _ _ (by rw [size_B]; simp [eightL]; omega), bind_some', w_all, Int.toNat_natCast]; rfl
    rw [if_neg q2, if_neg q2]
    by_cases q3 : k = 3
    · rw [if_pos q3, if_pos q3]
      obtain ⟨m, rfl⟩ := Int.eq_ofNat_of_zero_le h0
      rw [eight_ok q m (by omega), bind_some', raw_w _ _ _ (by rw [size_B]; simp [eightL]; omega), bind_some', w_all, Int.toNat_natCast]; rfl
    rw [if_neg q3, if_neg q3]
    by_cases q4 : k = 4
    · rw [if_pos q4, if_pos q4, w_text q (by omega) _ false t (by omega), bind_some', w_all]; rfl
    rw [if_neg q4, if_neg q4, w_all, append_B_nil]; rfl
  · rw [if_neg h, if_neg h]; rfl
theorem numL_one (n : Nat) (h0 : 0 < n) (h : n < 256) : numL n = [1, UInt8.ofNat n] := by
  unfold numL
  rw [digs_pos h0, show n / 256 = 0 from by omega, digs_zero, Nat.mod_eq_of_lt h]
  rfl
end Go.Proofs.Ytabdmnoejoiboaa.Q
