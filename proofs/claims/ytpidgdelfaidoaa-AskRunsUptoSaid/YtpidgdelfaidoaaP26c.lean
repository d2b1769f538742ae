/- Plain laws of chapter 26: values as texts, by the program and by the document. -/
import Derived.Test.YtpidgdelfaidoaaP26b
import Derived.Test.YtpidgdelfaidoaaP17a
namespace Go.Proofs.Ytpidgdelfaidoaa.Pure
open Go Go.Proofs.Ytpidgdelfaidoaa.E Go.Proofs.Ytpidgdelfaidoaa.Eng
set_option linter.unusedVariables false
set_option linter.unusedSimpArgs false
theorem rdo_middle {α : Type} {l a b : List α} {c : α} {i : Int} (h : l = a ++ c :: b) (hi : i = (a.length : Int)) : rdo l i = some c := by
 subst h; subst hi
 rw [rdo_at (by simp)]; simp
theorem put_mid {α : Type} (a b : List α) (c d : α) : (a ++ c :: b).set a.length d = a ++ d :: b := by
 rw [List.set_append_right _ _ (Nat.le_refl _)]; simp
theorem swap_loop : ∀ (n : Nat) (M A B : List Int), M.length = n → (A.length + M.length + B.length : Nat) ≤ 100000 → A.length = B.length →
  Runs (fun k => say_count.l1 k (A ++ M ++ B) (A.length : Int) ((A.length : Int) + (M.length : Int) - 1)) ((strOf (A ++ M.reverse ++ B), ()), ()) := by
 intro n
 induction n using Nat.strongRecOn with
 | _ n ih =>
  intro M A B hM hb hAB
  by_cases h1 : M.length ≤ 1
  ·refine Runs.step (fun k => rfl) (Runs.no (by apply decide_eq_false; omega) (Runs.some' ?_))
   match M, h1 with
   | [], _ => rfl
   | [x], _ => rfl
  ·obtain ⟨x, M1, rfl⟩ : ∃ x M1, M = x :: M1 := by
    cases M with
    | nil => simp at h1
    | cons x M1 => exact ⟨x, M1, rfl⟩
   have hM1 : M1 ≠ [] := fun h => by subst h; simp at h1
   obtain ⟨M2, y, rfl⟩ : ∃ M2 y, M1 = M2 ++ [y] := ⟨M1.dropLast, M1.getLast hM1, (List.dropLast_concat_getLast hM1).symm⟩
   have hl : (x :: (M2 ++ [y])).length = M2.length + 2 := by simp
   rw [hl] at hb h1 hM ⊢
   have e1 : A ++ (x :: (M2 ++ [y])) ++ B = A ++ x :: (M2 ++ y :: B) := by simp
   have e2 : A ++ x :: (M2 ++ y :: B) = (A ++ x :: M2) ++ y :: B := by simp
   have hj : ((A.length : Int) + ((M2.length + 2 : Nat) : Int) - 1) = (((A ++ x :: M2).length : Nat) : Int) := by simp; omega
   rw [e1, hj]
   have hlen : (A ++ x :: (M2 ++ y :: B)).length = A.length + M2.length + B.length + 2 := by simp; omega
   have hAl : (A ++ x :: M2).length = A.length + M2.length + 1 := by simp; omega
   refine Runs.step (fun k => rfl) (Runs.yes (by apply decide_eq_true; rw [hAl]; omega) ?_)
   refine Runs.ck (by simp only [Bool.and_eq_true, decide_eq_true_eq]; rw [hAl, hlen]; omega) (Runs.opt (rdo_middle e2 rfl) (Runs.ck (by simp only [Bool.and_eq_true, decide_eq_true_eq]; rw [hlen]; omega) (Runs.opt (rdo_middle rfl rfl) (Runs.ck (by simp only [Bool.and_eq_true, decide_eq_true_eq]; rw [hlen]; omega) ?_))))
   have s1 : (A ++ x :: (M2 ++ y :: B)).set ((A.length : Int)).toNat y = A ++ y :: (M2 ++ y :: B) := put_mid _ _ _ _
   have s2 : (A ++ y :: (M2 ++ y :: B)).set (((A ++ x :: M2).length : Nat) : Int).toNat x = A ++ y :: (M2 ++ x :: B) := by
    have : A ++ y :: (M2 ++ y :: B) = (A ++ y :: M2) ++ y :: B := by simp
    rw [this, show (((A ++ x :: M2).length : Nat) : Int).toNat = (A ++ y :: M2).length by rw [Int.toNat_natCast]; simp only [List.length_append, List.length_cons], put_mid]; simp
   rw [s1, s2]
   refine Runs.ck (by simp only [Bool.and_eq_true, decide_eq_true_eq]; rw [hAl]; simp; omega) ?_
   have w1 : IntKind.wrap .i64 ((A.length : Int) + 1) = ((A ++ [y]).length : Int) := by rw [wrap_i64 (by omega) (by omega)]; simp
   have w2 : IntKind.wrap .i64 ((((A ++ x :: M2).length : Nat) : Int) - 1) = ((A ++ [y]).length : Int) + (M2.length : Int) - 1 := by rw [hAl, wrap_i64 (by omega) (by omega)]; simp; omega
   rw [w1, w2]
   have e3 : A ++ y :: (M2 ++ x :: B) = (A ++ [y]) ++ M2 ++ (x :: B) := by simp
   rw [e3]
   refine (ih M2.length (by omega) M2 (A ++ [y]) (x :: B) rfl (by simp; omega) (by simp; omega)).of_eq ?_
   simp
theorem count_loop : ∀ (m n : Nat) (o : Tx), n < 10 ^ m → n < 18446744073709551616 → o.length + m ≤ 1000 → Runs (fun k => say_count.l0 k (n : Int) (ni o)) ((tx (digL n ++ o.reverse), ()), ()) := by
 have last : ∀ (n : Nat) (o : Tx), n < 10 → o.length ≤ 1000 → Runs (fun k => say_count.l0 k (n : Int) (ni o)) ((tx (digL n ++ o.reverse), ()), ()) := by
  intro n o hn ho
  refine Runs.step (fun k => rfl) (Runs.no (by apply decide_eq_false; omega) ?_)
  rw [d48 n hn]
  have e : ni o ++ ([((UInt8.ofNat (48 + n)).toNat : Int)] : List Int) = ni (o ++ [UInt8.ofNat (48 + n)]) := by rw [ni_append]; rfl
  rw [e]
  refine Runs.ck (by apply decide_eq_true; rw [ni_length]; show (o.length + 1) * 1 ≤ _; omega) ?_
  have hlen : (ni (o ++ [UInt8.ofNat (48 + n)])).length = o.length + 1 := by rw [ni_length]; simp
  have hw : IntKind.wrap .i64 (((ni (o ++ [UInt8.ofNat (48 + n)])).length : Int) - 1) = (([] : List Int).length : Int) + ((ni (o ++ [UInt8.ofNat (48 + n)])).length : Int) - 1 := by rw [hlen, wrap_i64 (by omega) (by omega)]; simp
  rw [hw]
  have := swap_loop _ (ni (o ++ [UInt8.ofNat (48 + n)])) [] [] rfl (by simp; rw [ni_length]; simp; omega) rfl
  simp only [List.nil_append, List.append_nil] at this
  refine this.of_eq ?_
  have : (ni (o ++ [UInt8.ofNat (48 + n)])).reverse = ni (digL n ++ o.reverse) := by unfold ni; rw [← List.map_reverse, digL_small hn]; simp
  rw [this, strOf_ni]
 intro m
 induction m with
 | zero =>
  intro n o hn h64 ho
  exact last n o (by simp at hn; omega) (by omega)
 | succ m ih =>
  intro n o hn h64 ho
  by_cases h : n < 10
  ·exact last n o h (by omega)
  ·have t1 : Int.tmod (n : Int) 10 = ((n % 10 : Nat) : Int) := tmod_nn n 10
   have t2 : IntKind.wrap .u64 (Int.tdiv (n : Int) 10) = ((n / 10 : Nat) : Int) := by
    rw [show Int.tdiv (n : Int) 10 = ((n / 10 : Nat) : Int) from tdiv_nn n 10, wrap_u64n (by omega)]
   refine Runs.step (fun k => rfl) (Runs.yes (by apply decide_eq_true; omega) (Runs.ck rfl ?_))
   rw [t1, t2, d48 _ (by omega)]
   have e : ni o ++ ([((UInt8.ofNat (48 + n % 10)).toNat : Int)] : List Int) = ni (o ++ [UInt8.ofNat (48 + n % 10)]) := by rw [ni_append]; rfl
   rw [e]
   refine Runs.ck (by apply decide_eq_true; rw [ni_length]; show (o.length + 1) * 1 ≤ _; omega) (Runs.ck rfl ?_)
   refine (ih (n / 10) _ (by rw [Nat.pow_succ] at hn; omega) (by omega) (by simp; omega)).of_eq ?_
   rw [digL_big h]; simp
theorem count_ok (n : Nat) (h : n < 18446744073709551616) : Runs (fun k => say_count.f k (n : Int)) ((tx (digL n), ()), ()) :=
 Runs.step (fun k => rfl) ((count_loop 20 n [] (by omega) h (by simp)).of_eq (by simp))
theorem whole_ok (z : Int) (h1 : -9223372036854775808 ≤ z) (h2 : z ≤ 9223372036854775807) : Runs (fun k => say_whole.f k z) ((tx (wholeL z), ()), ()) := by
 refine Runs.step (fun k => rfl) (Runs.dec (fun h => ?_) (fun h => ?_))
 ·have e : IntKind.wrap .u64 (0 - IntKind.wrap .u64 z) = (z.natAbs : Int) := by
   rw [wrap_u64z h1 h2, if_pos h]
   simp only [IntKind.wrap, IntKind.bits, IntKind.signed, Bool.false_and]
   simp; omega
  rw [e]
  have hl := digL_len 20 z.natAbs (by omega) (by omega)
  refine Runs.bind (count_ok _ (by omega)) (Runs.ck (by apply decide_eq_true; show 1 + (tx (digL z.natAbs)).size ≤ _; rw [tx_size]; omega) (Runs.some' ?_))
  unfold wholeL; rw [if_pos (by omega)]
  exact congrArg (fun x => ((x, ()), ())) (tx_append [45] _).symm
 ·have e : IntKind.wrap .u64 z = (z.natAbs : Int) := by rw [wrap_u64z h1 h2, if_neg (by omega)]; omega
  rw [e]
  refine Runs.bind (count_ok _ (by omega)) (Runs.some' ?_)
  unfold wholeL; rw [if_neg (by omega)]
def hexD : Nat → Nat → Tx
 | 0, _ => []
 | m + 1, b => hexU (b / 16 ^ m % 16) :: hexD m b
theorem hexD_len : ∀ (m b : Nat), (hexD m b).length = m
 | 0, _ => rfl
 | m + 1, b => by simp [hexD, hexD_len m b]
def floatL (b : Nat) : Tx := [102, 108, 111, 97, 116, 40] ++ quotedL (hexD 16 b) ++ [41]
theorem quotedL_len (l : Tx) : (quotedL l).length ≤ 2 + 4 * l.length := by
 have := escs_len l
 simp [quotedL]; omega
theorem pow16 (j : Nat) : 16 ^ j = 2 ^ (4 * j) := by rw [Nat.pow_mul]
theorem bit15 (b j : Nat) (hb : b < 18446744073709551616) (hj : j < 16) : IntKind.wrap .u64 ((BitVec.ofInt (IntKind.bits .u64) (Int.fdiv (b : Int) (2 ^ (min (((4 * j : Nat) : Int)).toNat (IntKind.bits .u64)))) &&& BitVec.ofInt (IntKind.bits .u64) 15).toNat : Int) = ((b / 16 ^ j % 16 : Nat) : Int) := by
 have h1 : min (((4 * j : Nat) : Int)).toNat (IntKind.bits .u64) = 4 * j := by
  show min _ 64 = _
  rw [Int.toNat_natCast]; omega
 have h2 : Int.fdiv (b : Int) (2 ^ (4 * j)) = ((b / 16 ^ j : Nat) : Int) := by
  rw [show ((2 : Int) ^ (4 * j)) = ((2 ^ (4 * j) : Nat) : Int) by simp, Int.fdiv_eq_ediv_of_nonneg _ (Int.natCast_nonneg _), pow16]
  rfl
 have h3 : b / 16 ^ j ≤ b := Nat.div_le_self _ _
 rw [h1]
 show IntKind.wrap .u64 ((BitVec.ofInt (IntKind.bits .u64) (Int.fdiv (b : Int) (2 ^ (4 * j))) &&& BitVec.ofInt (IntKind.bits .u64) 15).toNat : Int) = _
 rw [h2]
 generalize b / 16 ^ j = q at h3 ⊢
 have e : (BitVec.ofInt (IntKind.bits .u64) (q : Int) &&& BitVec.ofInt (IntKind.bits .u64) 15).toNat = q % 16 := by
  show (BitVec.ofInt 64 (q : Int) &&& BitVec.ofInt 64 15).toNat = _
  rw [BitVec.toNat_and]
  have h1 : (BitVec.ofInt 64 (q : Int)).toNat = q := by rw [BitVec.toNat_ofInt]; omega
  have h2 : (BitVec.ofInt 64 15).toNat = 2 ^ 4 - 1 := rfl
  rw [h1, h2, Nat.and_two_pow_sub_one_eq_mod]
 rw [e]
 exact wrap_u64n (by omega)
end Go.Proofs.Ytpidgdelfaidoaa.Pure
