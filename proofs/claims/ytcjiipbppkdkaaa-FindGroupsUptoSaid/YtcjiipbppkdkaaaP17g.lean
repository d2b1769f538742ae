/- Plain laws of chapter 17: values that may be; papers, cut, whose values have their ranges. -/
import Derived.Test.YtcjiipbppkdkaaaP17d
import Derived.Test.YtcjiipbppkdkaaaP04y
namespace Go.Proofs.Ytcjiipbppkdkaaa.Pure
open Go Go.Proofs.Ytcjiipbppkdkaaa.E Go.Proofs.Ytcjiipbppkdkaaa.Eng
set_option linter.unusedVariables false
set_option linter.unusedSimpArgs false
theorem TP.runs {α : Type} {f : Nat → Option α} {P : α → Prop} {v : α} (h : TP f P) (h' : Runs f v) : P v := by
 obtain ⟨w, h1, hp⟩ := h
 exact Runs.uniq h1 h' ▸ hp
theorem eqVal_iff (a b : ValueT) : eqVal a b = true ↔ a = b := by
 obtain ⟨a1, a2, a3, a4, a5, ⟨⟩⟩ := a
 obtain ⟨b1, b2, b3, b4, b5, ⟨⟩⟩ := b
 unfold eqVal
 simp only [Bool.and_eq_true, beq_iff_eq, Bool.and_true, Prod.mk.injEq, and_true]
 rw [show (seqB a5 b5 = true) = (a5 = b5) from propext (Go.MapKept.bytes_beq a5 b5)]
inductive FV : ValueT → Prop where
 | null : FV (0, (false, (0, (0, (ByteArray.empty, ())))))
 | bool (b : Bool) : FV (1, (b, (0, (0, (ByteArray.empty, ())))))
 | int (z : Int) : FV (2, (false, (z, (0, (ByteArray.empty, ())))))
 | flt (n : Nat) (h : n < 18446744073709551616) (hc : fcan n = n) : FV (3, (false, (0, ((n : Int), (ByteArray.empty, ())))))
 | text (s : ByteArray) : FV (4, (false, (0, (0, (s, ())))))
theorem rightV_form {x : ValueT} (hb : BOk x) (h : rightV x = true) : FV x := by
 unfold rightV at h
 simp only [Bool.and_eq_true, decide_eq_true_eq] at h
 obtain ⟨h0, h4, _, h⟩ := h
 have h := (eqVal_iff _ _).mp h
 obtain ⟨n, hn, hn2⟩ := hb
 obtain ⟨k, b, i, f, t, ⟨⟩⟩ := x
 have hn : f = (n : Int) := hn
 subst hn
 have h0 : k ≥ 0 := h0
 have h4 : k ≤ 4 := h4
 unfold cleanV at h
 have hk : k = 0 ∨ k = 1 ∨ k = 2 ∨ k = 3 ∨ k = 4 := by omega
 rcases hk with rfl | rfl | rfl | rfl | rfl
 ·have h : ((0, (b, (i, ((n : Int), (t, ()))))) : ValueT) = (0, (false, (0, (0, (ByteArray.empty, ()))))) := h
  rw [h]; exact .null
 ·have h : ((1, (b, (i, ((n : Int), (t, ()))))) : ValueT) = (1, (b, (0, (0, (ByteArray.empty, ()))))) := h
  rw [h]; exact .bool b
 ·have h : ((2, (b, (i, ((n : Int), (t, ()))))) : ValueT) = (2, (false, (i, (0, (ByteArray.empty, ()))))) := h
  rw [h]; exact .int i
 ·cases hf : fnan n with
  | true =>
   have h : ((3, (b, (i, ((n : Int), (t, ()))))) : ValueT) = (bif fnan ((n : Int)).toNat then (3, (false, (0, (9221120237041090561, (ByteArray.empty, ()))))) else (3, (false, (0, ((n : Int), (ByteArray.empty, ())))))) := h
   rw [Int.toNat_natCast, hf] at h
   rw [h]; exact .flt 9221120237041090561 (by decide) (by decide)
  | false =>
   have h : ((3, (b, (i, ((n : Int), (t, ()))))) : ValueT) = (bif fnan ((n : Int)).toNat then (3, (false, (0, (9221120237041090561, (ByteArray.empty, ()))))) else (3, (false, (0, ((n : Int), (ByteArray.empty, ())))))) := h
   rw [Int.toNat_natCast, hf] at h
   rw [h]; exact .flt n hn2 (by unfold fcan; rw [hf])
 ·have h : ((4, (b, (i, ((n : Int), (t, ()))))) : ValueT) = (4, (false, (0, (0, (t, ()))))) := h
  rw [h]; exact .text t
theorem rightQ_eq {x : ValueT} (hb : BOk x) : rightQ x = rightV x := by
 have := Runs.uniq (rightQ_ok x) (right_ok x hb)
 injection this with this; injection this
-- a float's rank
theorem rank_low {n : Nat} (h : n < 9223372036854775808) : rankV (n : Int) = (n : Int) + 9223372036854775808 := by
 have hr : Runs (fun k => value_rank.f k (n : Int)) (((n : Int) + 9223372036854775808, ()), ()) := by
  refine Runs.step (body := fun k => (ck (!decide ((63 : Int) < 0))).bind fun _ => bif (Int.fdiv (n : Int) (2 ^ (min (63 : Int).toNat (IntKind.bits .u64))) : Int) == 1 then some ((IntKind.wrap .u64 ((BitVec.ofInt (IntKind.bits .u64) (match IntKind.signed .u64 with | true => -1 | false => IntKind.max .u64) ^^^ BitVec.ofInt (IntKind.bits .u64) (n : Int)).toNat : Int), ()), (())) else some ((IntKind.wrap .u64 ((BitVec.ofInt (IntKind.bits .u64) (n : Int) ||| BitVec.ofInt (IntKind.bits .u64) 9223372036854775808).toNat : Int), ()), (()))) (fun k => rfl) (Runs.ck (by decide) (Runs.no ?_ (Runs.some' ?_)))
  ·rw [top1 n (by omega)]; unfold negB; simp; omega
  ·have hor := or_nat n 9223372036854775808 (by omega) (by omega)
   rw [show ((9223372036854775808 : Nat) : Int) = 9223372036854775808 from rfl] at hor
   rw [hor]
   have : n ||| 9223372036854775808 = 9223372036854775808 + n := by
    rw [Nat.or_comm]; exact (Nat.two_pow_add_eq_or_of_lt (i := 63) (by omega) 1).symm
   rw [this, wrap_u64 (by omega)]
   congr 2; omega
 have := Runs.uniq (rank_ok (n : Int)) hr
 injection this with this; injection this
theorem rank_high {n : Nat} (h : 9223372036854775808 ≤ n) (h2 : n < 18446744073709551616) : rankV (n : Int) = 18446744073709551615 - (n : Int) := by
 have hr : Runs (fun k => value_rank.f k (n : Int)) ((18446744073709551615 - (n : Int), ()), ()) := by
  refine Runs.step (body := fun k => (ck (!decide ((63 : Int) < 0))).bind fun _ => bif (Int.fdiv (n : Int) (2 ^ (min (63 : Int).toNat (IntKind.bits .u64))) : Int) == 1 then some ((IntKind.wrap .u64 ((BitVec.ofInt (IntKind.bits .u64) (match IntKind.signed .u64 with | true => -1 | false => IntKind.max .u64) ^^^ BitVec.ofInt (IntKind.bits .u64) (n : Int)).toNat : Int), ()), (())) else some ((IntKind.wrap .u64 ((BitVec.ofInt (IntKind.bits .u64) (n : Int) ||| BitVec.ofInt (IntKind.bits .u64) 9223372036854775808).toNat : Int), ()), (()))) (fun k => rfl) (Runs.ck (by decide) (Runs.yes ?_ (Runs.some' ?_)))
  ·rw [top1 n (by omega)]; unfold negB; simp; omega
  ·have e : (BitVec.ofInt (IntKind.bits .u64) (match IntKind.signed .u64 with | true => -1 | false => IntKind.max .u64) ^^^ BitVec.ofInt (IntKind.bits .u64) (n : Int)).toNat = 18446744073709551615 - n := by
    show (BitVec.ofInt 64 18446744073709551615 ^^^ BitVec.ofInt 64 (n : Int)).toNat = _
    have h1 : BitVec.ofInt 64 18446744073709551615 = BitVec.allOnes 64 := by decide
    have h3 : (BitVec.ofInt 64 (n : Int)).toNat = n := by rw [BitVec.toNat_ofInt]; omega
    rw [h1, BitVec.xor_comm, BitVec.xor_allOnes, BitVec.toNat_not, h3]
   rw [e, wrap_u64 (by omega)]
   congr 2; omega
 have := Runs.uniq (rank_ok (n : Int)) hr
 injection this with this; injection this
theorem rank_inj {n m : Nat} (hn : n < 18446744073709551616) (hm : m < 18446744073709551616) (h : rankV (n : Int) = rankV (m : Int)) : n = m := by
 by_cases h1 : n < 9223372036854775808
 ·by_cases h2 : m < 9223372036854775808
  ·rw [rank_low h1, rank_low h2] at h; omega
  ·rw [rank_low h1, rank_high (by omega) hm] at h; omega
 ·by_cases h2 : m < 9223372036854775808
  ·rw [rank_high (by omega) hn, rank_low h2] at h; omega
  ·rw [rank_high (by omega) hn, rank_high (by omega) hm] at h; omega
theorem clnV_flt {n : Nat} (hn : n < 18446744073709551616) (hc : fcan n = n) : clnV (3, (false, (0, ((n : Int), (ByteArray.empty, ()))))) = (3, (false, (0, ((n : Int), (ByteArray.empty, ()))))) := by
 have h := Runs.uniq (cln_ok (3, (false, (0, ((n : Int), (ByteArray.empty, ())))))) (clean_ok _ ⟨n, rfl, hn⟩)
 injection h with h; injection h with h
 rw [h]
 unfold cleanV
 show (bif fnan ((n : Int)).toNat then ((3, (false, (0, (9221120237041090561, (ByteArray.empty, ()))))) : ValueT) else (3, (false, (0, ((n : Int), (ByteArray.empty, ())))))) = _
 rw [Int.toNat_natCast]
 cases hf : fnan n with
 | true => unfold fcan at hc; rw [hf] at hc; have hc : 9221120237041090561 = n := hc; rw [← hc]; rfl
 | false => rfl
theorem cmp_zero {a b : ValueT} (ha : FV a) (hb : FV b) (h : cmpV a b = 0) : a = b := by
 rw [cmp_eq] at h
 by_cases e : a.1 = b.1
 ·by_cases h4 : a.1 = 4
  ·rw [cmpX_4 e h4] at h
   cases ha <;> first | (exfalso; dsimp only at h4; omega) | skip
   cases hb <;> first | (exfalso; dsimp only at e; omega) | skip
   rename_i s t
   have h : Lib.compareBytes s.data.toList t.data.toList = 0 := h
   have := (cb_zero _ _).mp h
   have hs : s = t := by
    apply ByteArray.ext
    apply Array.ext'
    exact this
   rw [hs]
  ·rw [cmpX_k e h4] at h
   have := sgI_cases (keyV a) (keyV b)
   have hk : keyV a = keyV b := by omega
   cases ha <;> cases hb <;> first | (exfalso; dsimp only at e; omega) | skip
   ·rfl
   ·rename_i x y
    cases x <;> cases y <;> first | rfl | (exact absurd hk (by unfold keyV; decide))
   ·rename_i x y
    have hk : x = y := hk
    rw [hk]
   ·rename_i x hx hcx y hy hcy
    have k1 : ∀ n : Nat, keyV (3, (false, (0, ((n : Int), (ByteArray.empty, ()))))) = rankV (clnV (3, (false, (0, ((n : Int), (ByteArray.empty, ())))))).2.2.2.1 := fun n => rfl
    rw [k1, k1, clnV_flt hx hcx, clnV_flt hy hcy] at hk
    rw [rank_inj hx hy hk]
 ·rw [cmpX_ne e] at h
  have := sgI_cases a.1 b.1
  omega
theorem cmp_self (a : ValueT) : cmpV a a = 0 := by have := cmp_neg a a; omega
theorem cmp_lt {a b c : ValueT} (h1 : cmpV a b < 0) (h2 : cmpV b c ≤ 0) : cmpV a c < 0 := by
 have h3 := cmp_chain a b c (by omega) h2
 by_cases h : cmpV a c = 0
 ·have n1 := cmp_neg a c
  have := cmp_chain b c a h2 (by omega)
  have n2 := cmp_neg a b
  omega
 ·omega
end Go.Proofs.Ytcjiipbppkdkaaa.Pure
