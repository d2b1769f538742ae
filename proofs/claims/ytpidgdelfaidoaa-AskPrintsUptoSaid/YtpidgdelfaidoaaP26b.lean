/- Plain laws of chapter 26: the document's text between quotes; numbers as digits. -/
import Derived.Test.YtpidgdelfaidoaaP26a
namespace Go.Proofs.Ytpidgdelfaidoaa.Pure
open Go Go.Proofs.Ytpidgdelfaidoaa.E Go.Proofs.Ytpidgdelfaidoaa.Eng
set_option linter.unusedVariables false
set_option linter.unusedSimpArgs false
theorem tdiv_nn (a b : Nat) : Int.tdiv (a : Int) (b : Int) = ((a / b : Nat) : Int) := by rw [Int.tdiv_eq_ediv_of_nonneg (by omega)]; rfl
theorem tmod_nn (a b : Nat) : Int.tmod (a : Int) (b : Int) = ((a % b : Nat) : Int) := by rw [Int.tmod_eq_emod_of_nonneg (by omega)]; rfl
theorem wrap_i64n {n : Nat} (h : n ≤ 9223372036854775807) : IntKind.wrap .i64 (n : Int) = (n : Int) := wrap_i64 (by omega) (by omega)
theorem wrap_u64n {n : Nat} (h : n ≤ 18446744073709551615) : IntKind.wrap .u64 (n : Int) = (n : Int) := by
 simp only [IntKind.wrap, IntKind.bits, IntKind.signed, Bool.false_and]
 simp; omega
theorem one_cut {s : Tx} {i : Nat} (h : i < s.length) : (tx s).extract i (i + 1) = tx [s[i]] := by
 rw [tx_extract _ _ _ (by omega) (by omega), List.take_succ_eq_append_getElem h, List.drop_append, List.drop_of_length_le (by rw [List.length_take]; omega)]
 rw [show (s.take i).length = i by rw [List.length_take]; omega]
 simp
theorem rquoted_loop (s : Tx) (hs : s.length ≤ 100000) : ∀ (r o : Tx) (i : Nat), i + r.length = s.length → s.drop i = r → o.length ≤ 1 + 4 * i →
  Runs (fun k => chartularyref23_Quoted.l0 k (tx s) (tx hexT) (tx o) (i : Int)) ((tx (o ++ escs r ++ [34]), ()), ()) := by
 intro r
 induction r with
 | nil =>
  intro o i hi hd ho
  refine Runs.step (fun k => rfl) (Runs.no (by apply decide_eq_false; rw [tx_size]; simp at hi; omega) ?_)
  refine Runs.ck (by apply decide_eq_true; rw [tx_size]; show o.length + 1 ≤ _; simp at hi; omega) (Runs.some' ?_)
  congr 2
  show tx o ++ tx [34] = _
  rw [← tx_append]; simp [escs]
 | cons c r ih =>
  intro o i hi hd ho
  have hil : i < s.length := by simp at hi; omega
  have hc : s[i] = c := by
   have := List.drop_eq_getElem_cons hil
   rw [hd] at this; injection this with h1 h2; exact h1.symm
  have hd' : s.drop (i + 1) = r := by
   have := List.drop_eq_getElem_cons hil
   rw [hd] at this; injection this with h1 h2; exact h2.symm
  have hw : IntKind.wrap .i64 ((i : Int) + 1) = ((i + 1 : Nat) : Int) := by rw [wrap_i64 (by omega) (by omega)]; rfl
  have hc16 := u8_lt c
  have hsz : (tx s).size = s.length := tx_size s
  refine Runs.step (fun k => rfl) (Runs.yes (by apply decide_eq_true; rw [hsz]; omega) (Runs.opt (bto_tx hil) ?_))
  rw [hc]
  refine Runs.bind (rplain_ok c) (Runs.cond (fun hp => ?_) (fun hp => ?_))
  ·have hp : plainB c = true := hp
   rw [hw]
   refine Runs.ck (by simp only [Bool.and_eq_true, decide_eq_true_eq]; rw [hsz]; omega) ?_
   have hcut : (tx s).extract (i : Int).toNat ((i + 1 : Nat) : Int).toNat = tx [c] := by
    have := one_cut hil
    rw [hc] at this; exact this
   refine Runs.ck (by apply decide_eq_true; rw [hcut, tx_size, tx_size]; simp; omega) ?_
   rw [hcut, ← tx_append]
   refine (ih (o ++ [c]) (i + 1) (by simp at hi ⊢; omega) hd' (by simp; omega)).of_eq ?_
   simp [escs, esc, hp]
  ·have hp : plainB c = false := hp
   refine Runs.opt (bto_tx hil) (Runs.ck rfl (Runs.opt (bto_tx hil) (Runs.ck rfl ?_)))
   rw [hc]
   have hcw : IntKind.wrap .i64 (c.toNat : Int) = (c.toNat : Int) := wrap_i64n (by omega)
   have d1 : IntKind.wrap .i64 (Int.tdiv (IntKind.wrap .i64 (c.toNat : Int)) 16) = ((c.toNat / 16 : Nat) : Int) := by
    rw [hcw, show (16 : Int) = ((16 : Nat) : Int) from rfl, tdiv_nn, wrap_i64n (by omega)]
   have d2 : Int.tmod (IntKind.wrap .i64 (c.toNat : Int)) 16 = ((c.toNat % 16 : Nat) : Int) := by
    rw [hcw, show (16 : Int) = ((16 : Nat) : Int) from rfl, tmod_nn]
   have w1 : IntKind.wrap .i64 (((c.toNat / 16 : Nat) : Int) + 1) = ((c.toNat / 16 + 1 : Nat) : Int) := by rw [wrap_i64 (by omega) (by omega)]; rfl
   have w2 : IntKind.wrap .i64 (((c.toNat % 16 : Nat) : Int) + 1) = ((c.toNat % 16 + 1 : Nat) : Int) := by rw [wrap_i64 (by omega) (by omega)]; rfl
   rw [d1, d2, w1, w2, hw]
   have x1 : (tx hexT).extract (((c.toNat / 16 : Nat) : Int)).toNat (((c.toNat / 16 + 1 : Nat) : Int)).toNat = tx [hexU (c.toNat / 16)] := hex_cut _ (by omega)
   have x2 : (tx hexT).extract (((c.toNat % 16 : Nat) : Int)).toNat (((c.toNat % 16 + 1 : Nat) : Int)).toNat = tx [hexU (c.toNat % 16)] := hex_cut _ (by omega)
   have e1 : tx o ++ (⟨#[92, 120]⟩ : ByteArray) = tx (o ++ [92, 120]) := (tx_append o [92, 120]).symm
   have hx : ((tx hexT).size : Int) = 16 := rfl
   refine Runs.ck (by apply decide_eq_true; rw [tx_size]; show o.length + 2 ≤ _; omega) ?_
   refine Runs.ck (by simp only [Bool.and_eq_true, decide_eq_true_eq]; rw [hx]; omega) ?_
   rw [x1, x2, e1, ← tx_append, ← tx_append]
   refine Runs.ck (by apply decide_eq_true; rw [tx_size, tx_size]; simp; omega) ?_
   refine Runs.ck (by simp only [Bool.and_eq_true, decide_eq_true_eq]; rw [hx]; omega) ?_
   refine Runs.ck (by apply decide_eq_true; rw [tx_size, tx_size]; simp; omega) ?_
   refine (ih _ (i + 1) (by simp at hi ⊢; omega) hd' (by simp; omega)).of_eq ?_
   simp [escs, esc, hp]
theorem rquoted_ok (s : Tx) (hs : s.length ≤ 100000) : Runs (fun k => chartularyref23_Quoted.f k (tx s)) ((tx (quotedL s), ()), ()) :=
 Runs.step (fun k => rfl) (rquoted_loop s hs s [34] 0 (by omega) rfl (by simp))
def digL (n : Nat) : Tx := if h : n < 10 then [UInt8.ofNat (48 + n)] else digL (n / 10) ++ [UInt8.ofNat (48 + n % 10)]
termination_by n
decreasing_by omega
theorem digL_small {n : Nat} (h : n < 10) : digL n = [UInt8.ofNat (48 + n)] := by rw [digL, dif_pos h]
theorem digL_big {n : Nat} (h : ¬ n < 10) : digL n = digL (n / 10) ++ [UInt8.ofNat (48 + n % 10)] := by rw [digL, dif_neg h]
theorem digL_pos (n : Nat) : digL n ≠ [] := by
 by_cases h : n < 10
 ·rw [digL_small h]; simp
 ·rw [digL_big h]; simp
theorem digL_len : ∀ (m n : Nat), n < 10 ^ m → 0 < m → (digL n).length ≤ m := by
 intro m
 induction m with
 | zero => intro n _ h; omega
 | succ m ih =>
  intro n hn _
  by_cases h : n < 10
  ·rw [digL_small h]; simp
  ·rw [digL_big h, List.length_append]
   have h1 : n / 10 < 10 ^ m := by rw [Nat.pow_succ] at hn; omega
   have hm : 0 < m := by
    rcases Nat.eq_zero_or_pos m with h0 | h0
    ·subst h0; simp at h1; omega
    ·exact h0
   have := ih (n / 10) h1 hm
   simp; omega
theorem d48 (n : Nat) (h : n < 10) : IntKind.wrap .u8 (IntKind.wrap .u64 (48 + (n : Int))) = ((UInt8.ofNat (48 + n)).toNat : Int) := by
 have e : (48 + (n : Int)) = ((48 + n : Nat) : Int) := by omega
 rw [e, wrap_u64n (by omega), wrap_u8 (by omega) (by omega)]
 have : (UInt8.ofNat (48 + n)).toNat = 48 + n := by simp [UInt8.toNat_ofNat']; omega
 rw [this]
theorem rcount_loop : ∀ (m n : Nat) (o : Tx), n < 10 ^ m → n < 18446744073709551616 → o.length + m ≤ 1000 → Runs (fun k => chartularyref23_count.l0 k (n : Int) (tx o)) ((tx (digL n ++ o), ()), ()) := by
 intro m
 induction m with
 | zero =>
  intro n o hn h64 ho
  have : n = 0 := by simp at hn; exact hn
  subst this
  refine Runs.step (fun k => rfl) (Runs.ck rfl (Runs.ck ?_ (Runs.ck rfl (Runs.yes rfl (Runs.some' ?_)))))
  ·apply decide_eq_true; rw [tx_size]; show 1 + o.length ≤ _; omega
  ·congr 2
   show strOf (ni [48]) ++ tx o = _
   rw [strOf_ni, ← tx_append, digL_small (by omega)]; rfl
 | succ m ih =>
  intro n o hn h64 ho
  have t1 : Int.tmod (n : Int) 10 = ((n % 10 : Nat) : Int) := tmod_nn n 10
  have t2 : IntKind.wrap .u64 (Int.tdiv (n : Int) 10) = ((n / 10 : Nat) : Int) := by
   rw [show Int.tdiv (n : Int) 10 = ((n / 10 : Nat) : Int) from tdiv_nn n 10, wrap_u64n (by omega)]
  have e : (strOf ([IntKind.wrap .u8 (IntKind.wrap .u64 (48 + (Int.tmod (n : Int) 10)))] : List Int)) = tx [UInt8.ofNat (48 + n % 10)] := by
   rw [t1, d48 _ (by omega)]
   exact strOf_ni [UInt8.ofNat (48 + n % 10)]
  refine Runs.step (fun k => rfl) (Runs.ck rfl (Runs.ck ?_ (Runs.ck rfl ?_)))
  ·apply decide_eq_true; rw [e, tx_size, tx_size]; simp; omega
  ·rw [e, t2, ← tx_append]
   by_cases h : n < 10
   ·refine Runs.yes (by rw [show n / 10 = 0 by omega]; rfl) (Runs.some' ?_)
    rw [digL_small h, show n % 10 = n by omega]
   ·refine Runs.no (by rw [beq_eq_false_iff_ne]; omega) ?_
    refine (ih (n / 10) _ (by rw [Nat.pow_succ] at hn; omega) (by omega) (by simp; omega)).of_eq ?_
    rw [digL_big h]; simp
theorem rcount_ok (n : Nat) (h : n < 18446744073709551616) : Runs (fun k => chartularyref23_count.f k (n : Int)) ((tx (digL n), ()), ()) :=
 Runs.step (fun k => rfl) ((rcount_loop 20 n [] (by omega) h (by simp)).of_eq (by simp))
def wholeL (z : Int) : Tx := if z < 0 then 45 :: digL z.natAbs else digL z.natAbs
theorem wrap_u64z {z : Int} (h1 : -9223372036854775808 ≤ z) (h2 : z ≤ 9223372036854775807) : IntKind.wrap .u64 z = if z < 0 then z + 18446744073709551616 else z := by
 simp only [IntKind.wrap, IntKind.bits, IntKind.signed, Bool.false_and]
 by_cases h : z < 0
 ·rw [if_pos h]; simp; omega
 ·rw [if_neg h]; simp; omega
theorem rwhole_ok (z : Int) (h1 : -9223372036854775808 ≤ z) (h2 : z ≤ 9223372036854775807) : Runs (fun k => chartularyref23_Whole.f k z) ((tx (wholeL z), ()), ()) := by
 refine Runs.step (fun k => rfl) (Runs.dec (fun h => ?_) (fun h => ?_))
 ·have e : IntKind.wrap .u64 z = (z.natAbs : Int) := by rw [wrap_u64z h1 h2, if_neg (by omega)]; omega
  rw [e]
  refine Runs.bind (rcount_ok _ (by omega)) (Runs.some' ?_)
  unfold wholeL; rw [if_neg (by omega)]
 ·have e : IntKind.wrap .u64 ((IntKind.wrap .u64 (IntKind.wrap .i64 (0 - IntKind.wrap .i64 (z + 1)))) + 1) = (z.natAbs : Int) := by
   rw [wrap_i64 (n := z + 1) (by omega) (by omega), wrap_i64 (n := 0 - (z + 1)) (by omega) (by omega), wrap_u64z (z := 0 - (z + 1)) (by omega) (by omega), if_neg (by omega)]
   have : (0 - (z + 1) + 1 : Int) = ((z.natAbs : Nat) : Int) := by omega
   rw [this, wrap_u64n (by omega)]
  rw [e]
  have hl := digL_len 20 z.natAbs (by omega) (by omega)
  refine Runs.bind (rcount_ok _ (by omega)) (Runs.ck (by apply decide_eq_true; show 1 + (tx (digL z.natAbs)).size ≤ _; rw [tx_size]; omega) (Runs.some' ?_))
  unfold wholeL; rw [if_pos (by omega)]
  exact congrArg (fun x => ((x, ()), ())) (tx_append [45] _).symm
end Go.Proofs.Ytpidgdelfaidoaa.Pure
