/- Plain laws of chapter 26: any value as a text; terms, texts joined, and a question as a text, by the program and by the document. -/
import Derived.Test.YtpidgdelfaidoaaP26c
namespace Go.Proofs.Ytpidgdelfaidoaa.Pure
open Go Go.Proofs.Ytpidgdelfaidoaa.E Go.Proofs.Ytpidgdelfaidoaa.Eng
set_option linter.unusedVariables false
set_option linter.unusedSimpArgs false
theorem float_loop (b : Nat) (hb : b < 18446744073709551616) (k0 : Int) (k1 : Bool) (k2 : Int) (k4 : ByteArray) : ∀ (m : Nat) (o : Tx), m ≤ 16 → o ++ hexD m b = hexD 16 b →
  Runs (fun k => say_Value.l0 k (ni o) (4 * (m : Int) - 4) k0 k1 k2 (b : Int) k4) ((tx (floatL b), ()), ()) := by
 intro m
 induction m with
 | zero =>
  intro o hm ho
  have ho : o = hexD 16 b := by simpa [hexD] using ho
  subst ho
  have hq := quotedL_len (hexD 16 b)
  rw [hexD_len] at hq
  refine Runs.step (fun k => rfl) (Runs.no (by apply decide_eq_false; omega) ?_)
  rw [strOf_ni]
  refine Runs.bind (quoted_ok _ (by rw [hexD_len]; omega)) (Runs.ck (by apply decide_eq_true; rw [tx_size]; show 6 + _ ≤ _; omega) ?_)
  have e : (⟨#[102, 108, 111, 97, 116, 40]⟩ : ByteArray) ++ tx (quotedL (hexD 16 b)) = tx ([102, 108, 111, 97, 116, 40] ++ quotedL (hexD 16 b)) := (tx_append _ _).symm
  rw [e]
  refine Runs.ck (by apply decide_eq_true; rw [tx_size]; simp; show _ + 1 ≤ _; omega) (Runs.some' ?_)
  exact congrArg (fun x => ((x, ()), ())) (tx_append _ [41]).symm
 | succ m ih =>
  intro o hm ho
  have e0 : (4 * ((m + 1 : Nat) : Int) - 4) = ((4 * m : Nat) : Int) := by omega
  have hol : o.length + (m + 1) = 16 := by have := congrArg List.length ho; rw [List.length_append, hexD_len, hexD_len] at this; exact this
  rw [e0]
  refine Runs.step (fun k => rfl) (Runs.yes (by apply decide_eq_true; omega) (Runs.ck (by simp; omega) ?_))
  rw [bit15 b m hb (by omega), hexT_tx]
  refine Runs.opt (bto_hex _ (Nat.mod_lt _ (by omega))) ?_
  refine Runs.ck (by apply decide_eq_true; rw [ni_length]; show (o.length + 1) * 1 ≤ _; omega) ?_
  have e : ni o ++ ([((hexU (b / 16 ^ m % 16)).toNat : Int)] : List Int) = ni (o ++ [hexU (b / 16 ^ m % 16)]) := by rw [ni_append]; rfl
  have w : IntKind.wrap .i64 (((4 * m : Nat) : Int) - 4) = 4 * (m : Int) - 4 := by rw [wrap_i64 (by omega) (by omega)]; omega
  rw [e, w]
  exact ih _ (by omega) (by rw [← ho]; simp [hexD])
def valueL (v : ValueT) : Tx :=
 if v.1 = 0 then [110, 117, 108, 108] else if v.1 = 1 then (if v.2.1 = true then [116, 114, 117, 101] else [102, 97, 108, 115, 101]) else if v.1 = 2 then wholeL v.2.2.1 else if v.1 = 3 then floatL v.2.2.2.1.toNat else if v.1 = 4 then quotedL v.2.2.2.2.1.data.toList else [110, 111, 110, 101]
structure VOk (v : ValueT) : Prop where
 i1 : -9223372036854775808 ≤ v.2.2.1
 i2 : v.2.2.1 ≤ 9223372036854775807
 b1 : 0 ≤ v.2.2.2.1
 b2 : v.2.2.2.1 < 18446744073709551616
 t : v.2.2.2.2.1.size ≤ 300
theorem value_ok (v : ValueT) (h : VOk v) : Runs (fun k => say_Value.f k v) ((tx (valueL v), ()), ()) := by
 have hf : ((v.2.2.2.1.toNat : Nat) : Int) = v.2.2.2.1 := Int.toNat_of_nonneg h.b1
 refine Runs.step (fun k => rfl) (Runs.cond (fun h0 => Runs.some' ?_) fun h0 => Runs.cond (fun h1 => Runs.cond (fun hb => Runs.some' ?_) fun hb => Runs.some' ?_) fun h1 => Runs.cond (fun h2 => Runs.bind (whole_ok _ h.i1 h.i2) (Runs.some' ?_)) fun h2 => Runs.cond (fun h3 => ?_) fun h3 => Runs.cond (fun h4 => ?_) fun h4 => Runs.some' ?_)
 all_goals (unfold valueL)
 ·rw [if_pos (eq_of_beq h0)]; rfl
 all_goals (have h0 : v.1 ≠ 0 := by simpa using h0)
 all_goals rw [if_neg h0]
 ·rw [if_pos (eq_of_beq h1), if_pos hb]; rfl
 ·rw [if_pos (eq_of_beq h1), if_neg (by rw [hb]; decide)]; rfl
 all_goals (have h1 : v.1 ≠ 1 := by simpa using h1)
 all_goals rw [if_neg h1]
 ·rw [if_pos (eq_of_beq h2)]
 all_goals (have h2 : v.1 ≠ 2 := by simpa using h2)
 all_goals rw [if_neg h2]
 ·rw [if_pos (eq_of_beq h3)]
  have := float_loop v.2.2.2.1.toNat (by have := h.b2; omega) v.1 v.2.1 v.2.2.1 v.2.2.2.2.1 16 [] (by omega) (by simp)
  rw [hf] at this
  exact this
 all_goals (have h3 : v.1 ≠ 3 := by simpa using h3)
 all_goals rw [if_neg h3]
 ·rw [if_pos (eq_of_beq h4)]
  have := quoted_ok v.2.2.2.2.1.data.toList (by rw [← size_list]; have := h.t; omega)
  rw [tx_self] at this
  exact Runs.bind this Runs.some
 ·have h4 : v.1 ≠ 4 := by simpa using h4
  rw [if_neg h4]; rfl
theorem wholeL_len (z : Int) (h1 : -9223372036854775808 ≤ z) (h2 : z ≤ 9223372036854775807) : (wholeL z).length ≤ 21 := by
 have := digL_len 20 z.natAbs (by omega) (by omega)
 unfold wholeL; split <;> simp <;> omega
theorem valueL_len (v : ValueT) (h : VOk v) : (valueL v).length ≤ 1300 := by
 have h1 := wholeL_len v.2.2.1 h.i1 h.i2
 have h2 := quotedL_len (hexD 16 v.2.2.2.1.toNat)
 rw [hexD_len] at h2
 have h3 := quotedL_len v.2.2.2.2.1.data.toList
 rw [← size_list] at h3
 have := h.t
 unfold valueL floatL
 repeat' split
 all_goals (try simp)
 all_goals omega
def eqVB (a b : ValueT) : Bool := (a.1 : Int) == b.1 && (a.2.1 == b.2.1 && ((a.2.2.1 : Int) == b.2.2.1 && ((a.2.2.2.1 : Int) == b.2.2.2.1 && (seqB a.2.2.2.2.1 b.2.2.2.2.1 && true))))
theorem seqB_eq (a b : ByteArray) : seqB a b = true ↔ a = b := Go.MapKept.bytes_beq a b
theorem eqVB_iff (a b : ValueT) : eqVB a b = true ↔ a = b := by
 obtain ⟨a1, a2, a3, a4, a5, ⟨⟩⟩ := a
 obtain ⟨b1, b2, b3, b4, b5, ⟨⟩⟩ := b
 unfold eqVB
 simp only [Bool.and_eq_true, beq_iff_eq, seqB_eq, Prod.mk.injEq, and_true]
def tailL (t : Trm) : Tx :=
 if t.2.2.2.1 = true ∧ t.2.2.2.2.1 = true ∧ t.2.1 = t.2.2.1 then [105, 115, 32] ++ valueL t.2.1 ++ [32]
 else if t.2.2.2.1 = false ∧ t.2.2.2.2.1 = false then [116, 104, 101, 114, 101, 32]
 else (if t.2.2.2.1 = true then [102, 114, 111, 109, 32] ++ valueL t.2.1 ++ [32] else []) ++ (if t.2.2.2.2.1 = true then [116, 111, 32] ++ valueL t.2.2.1 ++ [32] else [])
def termL (t : Trm) : Tx := (if t.2.2.2.2.2.1 = true then [110, 111, 116, 32] else []) ++ quotedL t.1.data.toList ++ [32] ++ tailL t
structure TOk (t : Trm) : Prop where
 n : t.1.size ≤ 300
 l : VOk t.2.1
 h : VOk t.2.2.1
theorem tailL_len (t : Trm) (h : TOk t) : (tailL t).length ≤ 2650 := by
 have h1 := valueL_len _ h.l
 have h2 := valueL_len _ h.h
 unfold tailL
 repeat' split
 all_goals (try simp)
 all_goals omega
theorem termL_len (t : Trm) (h : TOk t) : (termL t).length ≤ 3900 := by
 have h1 := tailL_len t h
 have h2 := quotedL_len t.1.data.toList
 rw [← size_list] at h2
 have := h.n
 unfold termL
 split <;> simp <;> omega
end Go.Proofs.Ytpidgdelfaidoaa.Pure
