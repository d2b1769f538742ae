/- Layer octet in plain lists: numbers and texts. -/
import Derived.Test.YtfegehfdbcnepaaPOctet
import Derived.Test.YtfegehfdbcnepaaQBase
import Derived.Laws.BitsLemmas
namespace Go.Proofs.Ytfegehfdbcnepaa.Q
open Go.RowKit Go.Proofs.Ytfegehfdbcnepaa.PAll Go.Proofs.YtfegehfdbcnepaaW.PrintWords Go.Proofs.YtfegehfdbcnepaaW.PrintLast
set_option linter.unusedVariables false
set_option linter.unusedSimpArgs false

theorem bind_some' {α β : Type} (a : α) (f : α → Option β) : (some a).bind f = f a := rfl
theorem isEmpty_L (s : ByteArray) : (L s = []) ↔ s = B [] := ⟨fun h => L_inj h, fun h => by rw [h]; rfl⟩
theorem empty_B : (⟨#[]⟩ : ByteArray) = B [] := rfl
theorem B_nil_append (s : ByteArray) : B [] ++ s = s := by apply L_inj; rw [L_append]; rfl
theorem append_B_nil (s : ByteArray) : s ++ B [] = s := by apply L_inj; rw [L_append]; simp [L_B]
theorem wrap64_id {n : Int} (h1 : -9223372036854775808 ≤ n) (h2 : n ≤ 9223372036854775807) : wrap64 n = n := by unfold wrap64; omega
theorem num_end (s : ByteArray) (h : s.size < 256) : strOfNums [((s.size : Int)) % 256] ++ s = B [UInt8.ofNat s.size] ++ s := by
  rw [show ((s.size : Int)) % 256 = ((s.size : Nat) : Int) from by omega, strOfNums_one _ h]
theorem one_size (x : Int) : (strOfNums [x]).size = 1 := rfl

theorem octet_l0 : ∀ (k n : Nat) (s : ByteArray), (digs n).length < k → s.size + (digs n).length < 256 →
    octet_Num.l0 k (n : Int) s = some (B [UInt8.ofNat ((digs n).length + s.size)] ++ (B (digs n) ++ s)) := by
  intro k
  induction k with
  | zero => intro n s hn; omega
  | succ k ih =>
    intro n s hn hs
    rcases Nat.eq_zero_or_pos n with rfl | hp
    · simp only [octet_Num.l0]
      rw [if_neg (by omega)]
      simp only [Option.bind_some]
      rw [num_end s (by omega), if_pos (by rw [one_size]; omega), digs_zero, B_nil_append]
      simp
    · rw [digs_pos hp] at hn hs
      simp only [List.length_append, List.length_cons, List.length_nil] at hn hs
      rw [octet_Num.l0, if_pos (by omega)]
      simp only [Option.bind_some]
      rw [if_pos (by rw [one_size]; omega)]
      rw [show ((n : Int) / 256) = ((n / 256 : Nat) : Int) from by omega, show ((n : Int)) % 256 = ((n % 256 : Nat) : Int) from by omega, strOfNums_one _ (Nat.mod_lt _ (by omega))]
      rw [ih (n / 256) _ (by omega) (by rw [ByteArray.size_append, size_B]; simp; omega)]
      rw [digs_pos hp, ByteArray.size_append, size_B]
      congr 1
      apply L_inj
      simp only [L_append, L_B, List.length_append, List.length_cons, List.length_nil, List.append_assoc]
      rw [show (digs (n / 256)).length + (0 + 1 + s.size) = (digs (n / 256)).length + (0 + 1) + s.size from by omega]

theorem numB_of (n : Nat) : B [UInt8.ofNat ((digs n).length + (B []).size)] ++ (B (digs n) ++ B []) = B (numL n) := by
  apply L_inj; simp [L_append, L_B, numL]; rfl

theorem octet_num (k : Nat) (hk : 12 ≤ k) (n : Int) : octet_Num.f k n = some (numI n) := by
  obtain ⟨k, rfl⟩ : ∃ m, k = m + 1 := ⟨k - 1, by omega⟩
  unfold octet_Num.f numI
  by_cases h : n < 0
  · rw [if_pos h, if_pos (.inl h)]; rfl
  · rw [if_neg h]
    by_cases h2 : n ≥ 72057594037927936
    · rw [decide_eq_true h2, if_pos (.inr h2)]; rfl
    · rw [decide_eq_false h2, if_neg (by omega)]
      rw [octet_Num.j0, if_neg (by decide)]
      obtain ⟨m, rfl⟩ := Int.eq_ofNat_of_zero_le (show 0 ≤ n by omega)
      have hd := digs_length_le 7 m (by omega)
      rw [show (⟨#[]⟩ : ByteArray) = B [] from rfl, octet_l0 k m (B []) (by omega) (by rw [size_B]; simp; omega), numB_of]
      rfl

theorem numI_size (n : Int) : (numI n).size ≤ 8 := by
  unfold numI
  split
  · decide
  · rw [size_B]
    unfold numL
    have := digs_length_le 7 n.toNat (by omega)
    simp; omega

theorem octet_text (k : Nat) (hk : 12 ≤ k) (s : ByteArray) (h : s.size ≤ 9223372036854775000) : octet_Text.f k s = some (numI s.size ++ s) := by
  unfold octet_Text.f
  rw [octet_num k hk]
  simp only [Option.bind_some]
  have := numI_size s.size
  rw [if_pos (by omega)]

/-! ## A number's bytes read back -/
/-- What bytes are worth, behind what was read. -/
def val (a : Nat) (l : List UInt8) : Nat := l.foldl (fun a b => a * 256 + b.toNat) a
theorem val_append (a : Nat) (l m : List UInt8) : val a (l ++ m) = val (val a l) m := by simp [val]
theorem val_digs (n : Nat) : val 0 (digs n) = n := by
  induction n using Nat.strongRecOn with
  | _ n ih =>
    rcases Nat.eq_zero_or_pos n with rfl | hp
    · rw [digs_zero]; rfl
    · rw [digs_pos hp, val_append, ih (n / 256) (by omega)]
      show n / 256 * 256 + (UInt8.ofNat (n % 256)).toNat = n
      rw [UInt8.toNat_ofNat']
      omega
theorem val_lt (l : List UInt8) : ∀ (a k : Nat), a < 256 ^ k → val a l < 256 ^ (k + l.length) := by
  induction l with
  | nil => intro a k h; exact h
  | cons b l ih =>
    intro a k h
    have hb := b.toNat_lt
    have := ih (a * 256 + b.toNat) (k + 1) (by rw [Nat.pow_succ]; omega)
    rw [List.length_cons, show k + (l.length + 1) = k + 1 + l.length from by omega]
    exact this
theorem val_ge (l : List UInt8) : ∀ a, a ≤ val a l := by
  induction l with
  | nil => intro a; exact Nat.le_refl _
  | cons b l ih => intro a; have := ih (a * 256 + b.toNat); show a ≤ val (a * 256 + b.toNat) l; omega
/-- Bytes that begin with none of 0 are those of what they are worth. -/
theorem digs_val : ∀ (n : Nat) (l : List UInt8), l.length = n → l.head? ≠ some 0 → digs (val 0 l) = l := by
  intro n
  induction n with
  | zero => intro l hn h; rw [List.length_eq_zero_iff.1 hn]; exact digs_zero
  | succ n ih =>
    intro l hn h
    rcases List.eq_nil_or_concat l with rfl | ⟨m, c, rfl⟩
    · simp at hn
    have hl : m.length = n := by simpa using hn
    rw [List.concat_eq_append] at h ⊢
    rw [val_append]
    show digs (val 0 m * 256 + c.toNat) = m ++ [c]
    have hc := c.toNat_lt
    cases m with
    | nil =>
      have hc0 : c ≠ 0 := by simpa using h
      have : c.toNat ≠ 0 := fun e => hc0 (by apply UInt8.toNat_inj.1; rw [e]; rfl)
      rw [show val 0 [] * 256 + c.toNat = c.toNat from by simp [val], digs_pos (by omega), show c.toNat / 256 = 0 from by omega, digs_zero, Nat.mod_eq_of_lt hc]
      simp
    | cons x m =>
      have hv := ih (x :: m) hl (by simpa using h)
      have hp : 0 < val 0 (x :: m) := by
        rcases Nat.eq_zero_or_pos (val 0 (x :: m)) with e | e
        · rw [e, digs_zero] at hv; simp at hv
        · exact e
      rw [digs_pos (by omega), show (val 0 (x :: m) * 256 + c.toNat) / 256 = val 0 (x :: m) from by omega, hv, show (val 0 (x :: m) * 256 + c.toNat) % 256 = c.toNat from by omega]
      simp

end Go.Proofs.Ytfegehfdbcnepaa.Q
