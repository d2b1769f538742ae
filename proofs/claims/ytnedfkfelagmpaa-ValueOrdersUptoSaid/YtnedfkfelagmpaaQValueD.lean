/- Layer value in plain numbers: order. -/
import Derived.Test.YtnedfkfelagmpaaQValueE
import Derived.Test.YtnedfkfelagmpaaPValueb
import Derived.Test.YtnedfkfelagmpaaPH04
namespace Go.Proofs.Ytnedfkfelagmpaa.Q
open Go.RowKit Go.Proofs.Ytnedfkfelagmpaa.PAll Go.Proofs.YtnedfkfelagmpaaW.PrintWords Go.Proofs.YtnedfkfelagmpaaW.PrintLast
set_option linter.unusedVariables false
set_option linter.unusedSimpArgs false
theorem xor_ones (a : Nat) (h : a < 18446744073709551616) : Go.bits .xor .u64 18446744073709551615 (a : Int) = ((18446744073709551615 - a : Nat) : Int) := by
  show IntKind.u64.wrap (((BitVec.ofInt 64 18446744073709551615 ^^^ BitVec.ofInt 64 (a : Int)).toNat : Nat) : Int) = _
  rw [show BitVec.ofInt 64 18446744073709551615 = BitVec.allOnes 64 from by decide, BitVec.allOnes_xor, BitVec.toNat_not, BitVec.ofInt_natCast, BitVec.toNat_ofNat, Nat.mod_eq_of_lt (by omega), u64_wrap]
  omega
theorem or_top (a : Nat) (h : a < 9223372036854775808) : Go.bits .or .u64 (a : Int) 9223372036854775808 = ((a + 9223372036854775808 : Nat) : Int) := by
  have e1 := (bits_nat .u64 64 (by decide) u64_wraps a 9223372036854775808 (by omega) (by decide)).2
  have e2 := (bits_nat .u64 64 (by decide) u64_wraps 9223372036854775808 a (by decide) (by omega)).2
  have e3 := bits_join .u64 64 (by decide) u64_wraps 63 (9223372036854775808 : Int) (a : Int) (by omega) (by omega) (by omega) (by omega) (by omega) (by omega)
  rw [Nat.or_comm] at e1
  rw [show ((9223372036854775808 : Nat) : Int) = 9223372036854775808 from rfl] at e1 e2
  rw [e1, ← e2, e3]
  omega
/-- A float's bits, so that they rise as the numbers do. -/
def rankV (b : Int) : Int := if b / 9223372036854775808 = 1 then 18446744073709551615 - b else b + 9223372036854775808
theorem rank_ok (b : Int) (h0 : 0 ≤ b) (h1 : b < 18446744073709551616) : value_rank.f b = some (rankV b) := by
  obtain ⟨m, rfl⟩ := Int.eq_ofNat_of_zero_le h0
  unfold value_rank.f rankV
  by_cases h : (m : Int) / 9223372036854775808 = 1
  · rw [if_pos h, if_pos h, xor_ones m (by omega)]; congr 1; omega
  · rw [if_neg h, if_neg h, or_top m (by omega)]; congr 1
def signV (l m : Bool) : Int := if l = true then -1 else if m = true then 1 else 0
theorem sign_ok (l m : Bool) : value_sign.f l m = some (signV l m) := by
  unfold value_sign.f signV
  cases l <;> cases m <;> rfl
/-- How two values that may be stand. -/
def cmpV (k1 : Int) (f1 : Bool) (n1 b1 : Int) (t1 : ByteArray) (k2 : Int) (f2 : Bool) (n2 b2 : Int) (t2 : ByteArray) : Int :=
  if k1 = k2 then if k1 = 1 then signV (!f1 && f2) (f1 && !f2) else if k1 = 2 then signV (decide (n1 < n2)) (decide (n1 > n2))
    else if k1 = 3 then signV (decide (rankV b1 < rankV b2)) (decide (rankV b1 > rankV b2)) else if k1 = 4 then Lib.compareBytes (L t1) (L t2) else 0
  else signV (decide (k1 < k2)) (decide (k1 > k2))
theorem clean_bits {k : Int} {f : Bool} {n b : Int} {t : ByteArray} (h : rightV k f n b t = true) : (cleanV k f n b t).2.2.2.1 = b := by
  rw [← (rightV_facts h).2.2.2]
theorem compare_ok (k1 : Int) (f1 : Bool) (n1 b1 : Int) (t1 : ByteArray) (k2 : Int) (f2 : Bool) (n2 b2 : Int) (t2 : ByteArray) (h1 : rightV k1 f1 n1 b1 t1 = true) (h2 : rightV k2 f2 n2 b2 t2 = true)
    (p0 : 0 ≤ b1) (p1 : b1 < 18446744073709551616) (q0 : 0 ≤ b2) (q1 : b2 < 18446744073709551616) : value_Compare.f k1 f1 n1 b1 t1 k2 f2 n2 b2 t2 = some (cmpV k1 f1 n1 b1 t1 k2 f2 n2 b2 t2) := by
  unfold value_Compare.f cmpV
  by_cases hk : k1 = k2
  · rw [if_pos hk, if_pos hk]
    by_cases c1 : k1 = 1
    · rw [if_pos c1, if_pos c1]
      cases f1
      · rw [if_neg (by decide), sign_ok, bind_some']; cases f2 <;> rfl
      · rw [if_pos rfl, sign_ok, bind_some']; cases f2 <;> rfl
    rw [if_neg c1, if_neg c1]
    by_cases c2 : k1 = 2
    · rw [if_pos c2, if_pos c2, sign_ok]; rfl
    rw [if_neg c2, if_neg c2]
    by_cases c3 : k1 = 3
    · rw [if_pos c3, if_pos c3, clean_ok k1 f1 n1 b1 t1 p0 p1, bind_some', clean_bits h1, rank_ok b1 p0 p1, bind_some', clean_ok k2 f2 n2 b2 t2 q0 q1, bind_some', clean_bits h2, rank_ok b2 q0 q1, bind_some', sign_ok]; rfl
    rw [if_neg c3, if_neg c3]
    by_cases c4 : k1 = 4
    · rw [if_pos c4, if_pos c4]; rfl
    rw [if_neg c4, if_neg c4]
  · rw [if_neg hk, if_neg hk, sign_ok]; rfl
/-! ## Texts -/
theorem cb_less : ∀ x y : List UInt8, Lib.compareBytes x y = signV (Op.bytesLess x y) (!(Op.bytesLess x y || x == y))
  | [], [] => rfl
  | [], _ :: _ => rfl
  | _ :: _, [] => rfl
  | a :: x, b :: y => by
    rw [Lib.compareBytes]
    have ih := cb_less x y
    show _ = signV (a < b || (a == b && Op.bytesLess x y)) (!((a < b || (a == b && Op.bytesLess x y)) || (a :: x == b :: y)))
    by_cases h : a < b
    · rw [if_pos h, decide_eq_true h]; rfl
    · rw [if_neg h, decide_eq_false h, Bool.false_or]
      by_cases h2 : b < a
      · have hne : ¬ a = b := fun e => by subst e; rw [UInt8.lt_iff_toNat_lt] at h2; omega
        rw [if_pos h2, beq_eq_false_iff_ne.2 hne, Bool.false_and, Bool.false_or]
        have : (a :: x == b :: y) = false := beq_eq_false_iff_ne.2 (fun e => hne (List.cons.inj e).1)
        rw [this]; rfl
      · have he : a = b := by
          rw [UInt8.lt_iff_toNat_lt] at h h2
          exact UInt8.toNat_inj.1 (by omega)
        subst he
        rw [if_neg h2, ih, beq_self_eq_true, Bool.true_and]
        have : (a :: x == a :: y) = (x == y) := by
          by_cases hxy : x = y
          · rw [hxy, beq_self_eq_true, beq_self_eq_true]
          · rw [beq_eq_false_iff_ne.2 hxy, beq_eq_false_iff_ne.2 (fun e => hxy (List.cons.inj e).2)]
        rw [this]
theorem cb_neg : ∀ x y : List UInt8, Lib.compareBytes y x = - Lib.compareBytes x y
  | [], [] => rfl
  | [], _ :: _ => rfl
  | _ :: _, [] => rfl
  | a :: x, b :: y => by
    rw [Lib.compareBytes, Lib.compareBytes]
    have ih := cb_neg x y
    by_cases h : a < b
    · rw [if_neg (show ¬ b < a from by rw [UInt8.lt_iff_toNat_lt] at h ⊢; omega), if_pos h, if_pos h]; rfl
    · by_cases h2 : b < a
      · rw [if_pos h2, if_neg h, if_pos h2]
      · rw [if_neg h2, if_neg h, if_neg h, if_neg h2]; exact ih
theorem cb_zero : ∀ x y : List UInt8, Lib.compareBytes x y = 0 ↔ x = y
  | [], [] => by simp [Lib.compareBytes]
  | [], _ :: _ => by simp [Lib.compareBytes]
  | _ :: _, [] => by simp [Lib.compareBytes]
  | a :: x, b :: y => by
    rw [Lib.compareBytes]
    have ih := cb_zero x y
    by_cases h : a < b
    · rw [if_pos h]
      refine ⟨fun e => absurd e (by decide), fun e => ?_⟩
      rw [(List.cons.inj e).1, UInt8.lt_iff_toNat_lt] at h; omega
    · by_cases h2 : b < a
      · rw [if_neg h, if_pos h2]
        refine ⟨fun e => absurd e (by decide), fun e => ?_⟩
        rw [(List.cons.inj e).1, UInt8.lt_iff_toNat_lt] at h2; omega
      · rw [if_neg h, if_neg h2, ih]
        have he : a = b := by
          rw [UInt8.lt_iff_toNat_lt] at h h2
          exact UInt8.toNat_inj.1 (by omega)
        subst he
        constructor
        · intro e; rw [e]
        · intro e; exact (List.cons.inj e).2
theorem cb_chain : ∀ x y z : List UInt8, Lib.compareBytes x y ≤ 0 → Lib.compareBytes y z ≤ 0 → Lib.compareBytes x z ≤ 0
  | [], _, [] => fun _ _ => by simp [Lib.compareBytes]
  | [], _, _ :: _ => fun _ _ => by simp [Lib.compareBytes]
  | _ :: _, [], _ => fun h _ => by simp [Lib.compareBytes] at h
  | _ :: _, _ :: _, [] => fun _ h => by simp [Lib.compareBytes] at h
  | a :: x, b :: y, c :: z => fun h1 h2 => by
    rw [Lib.compareBytes] at h1 h2 ⊢
    have ih := cb_chain x y z
    simp only [UInt8.lt_iff_toNat_lt] at h1 h2 ⊢
    by_cases p : a.toNat < b.toNat
    · have q : ¬ c.toNat < b.toNat := by
        intro q; rw [if_neg (by omega), if_pos q] at h2; omega
      rw [if_pos (by omega)]; decide
    · rw [if_neg p] at h1
      have p2 : ¬ b.toNat < a.toNat := by intro q; rw [if_pos q] at h1; omega
      rw [if_neg p2] at h1
      by_cases q : b.toNat < c.toNat
      · rw [if_pos (by omega)]; decide
      · rw [if_neg q] at h2
        have q2 : ¬ c.toNat < b.toNat := by intro z; rw [if_pos z] at h2; omega
        rw [if_neg q2] at h2
        rw [if_neg (by omega), if_neg (by omega)]
        exact ih h1 h2
/-! ## Floats -/
theorem rank_inj {a b : Int} (a0 : 0 ≤ a) (a1 : a < 18446744073709551616) (b0 : 0 ≤ b) (b1 : b < 18446744073709551616) (h : rankV a = rankV b) : a = b := by
  unfold rankV at h
  split at h <;> split at h <;> omega
/-- The bits of a float that is clean: a number's, or the one. -/
def fine (b : Int) : Prop := (0 ≤ b ∧ b < 18446744073709551616) ∧ (nanB b = true → b = 9221120237041090561)
theorem fine_of {f : Bool} {n b : Int} {t : ByteArray} (h : rightV 3 f n b t = true) (b0 : 0 ≤ b) (b1 : b < 18446744073709551616) : fine b := by
  refine ⟨⟨b0, b1⟩, fun hn => ?_⟩
  have := (rightV_facts h).2.2.2
  unfold cleanV at this
  rw [if_neg (by decide), if_neg (by decide), if_pos rfl, if_pos hn] at this
  injection this with _ this; injection this with _ this; injection this with _ this; injection this with this _
theorem ahead_ok (k : Nat) (a b : Int) (ha : fine a) (hb : fine b) : chartularylaw04_ahead.f (k + 1) a b = some (decide (rankV a < rankV b)) := by
  obtain ⟨⟨a0, a1⟩, an⟩ := ha
  obtain ⟨⟨b0, b1⟩, bn⟩ := hb
  unfold chartularylaw04_ahead.f
  rw [law_nan_ok a a0 a1, law_nan_ok b b0 b1, bind_some', bind_some']
  unfold nanB at an bn ⊢
  simp only [decide_eq_true_eq] at an bn ⊢
  unfold rankV
  by_cases p : a % 9223372036854775808 > 9218868437227405312
  · have ea := an p
    rw [if_pos p, chartularylaw04_ahead.j0, if_pos rfl, law_nan_ok a a0 a1, bind_some']
    unfold nanB
    rw [decide_eq_true p, if_pos rfl]
    congr 1
    symm
    apply decide_eq_false
    subst ea
    rw [if_neg (by decide)]
    by_cases q : b % 9223372036854775808 > 9218868437227405312
    · rw [bn q, if_neg (by decide)]; omega
    · split <;> omega
  · rw [if_neg p, chartularylaw04_ahead.j0]
    by_cases q : b % 9223372036854775808 > 9218868437227405312
    · have eb := bn q
      rw [if_pos (decide_eq_true q), law_nan_ok a a0 a1, bind_some', law_nan_ok b b0 b1]
      unfold nanB
      rw [decide_eq_false p, if_neg (by decide), decide_eq_true q, bind_some']
      congr 1
      symm
      apply decide_eq_true
      subst eb
      rw [if_neg (show ¬ (9221120237041090561 : Int) / 9223372036854775808 = 1 by decide)]
      split <;> omega
    · rw [if_neg (by simpa using q)]
      by_cases s : a / 9223372036854775808 = b / 9223372036854775808
      · rw [if_pos s]
        by_cases u : a / 9223372036854775808 = 1
        · rw [if_pos u, if_pos u, if_pos (s ▸ u)]
          congr 1
          by_cases v : a > b
          · rw [decide_eq_true v, decide_eq_true (by omega)]
          · rw [decide_eq_false v, decide_eq_false (by omega)]
        · rw [if_neg u, if_neg u, if_neg (s ▸ u)]
          congr 1
          by_cases v : a < b
          · rw [decide_eq_true v, decide_eq_true (by omega)]
          · rw [decide_eq_false v, decide_eq_false (by omega)]
      · rw [if_neg s]
        congr 1
        by_cases u : a / 9223372036854775808 = 1
        · rw [if_pos u, if_neg (by omega), u, decide_eq_true (by omega)]; rfl
        · rw [if_neg u, if_pos (by omega), beq_eq_false_iff_ne.2 u, decide_eq_false (by omega)]
theorem order_j0 (k : Nat) (l m : Bool) : chartularylaw04_order.j0 (k + 1) l m = some (signV l m) := by
  rw [chartularylaw04_order.j0]
  unfold signV
  cases l <;> cases m <;> rfl
theorem order_ok (k : Nat) (k1 : Int) (f1 : Bool) (n1 b1 : Int) (t1 : ByteArray) (k2 : Int) (f2 : Bool) (n2 b2 : Int) (t2 : ByteArray) (h1 : rightV k1 f1 n1 b1 t1 = true) (h2 : rightV k2 f2 n2 b2 t2 = true)
    (p0 : 0 ≤ b1) (p1 : b1 < 18446744073709551616) (q0 : 0 ≤ b2) (q1 : b2 < 18446744073709551616) : chartularylaw04_order.f (k + 1) k1 f1 n1 b1 t1 k2 f2 n2 b2 t2 = some (cmpV k1 f1 n1 b1 t1 k2 f2 n2 b2 t2) := by
  unfold chartularylaw04_order.f cmpV
  by_cases hk : k1 = k2
  · rw [if_pos hk, if_pos hk]
    by_cases c1 : k1 = 1
    · rw [if_pos c1, if_pos c1, order_j0, order_j0]
      cases f1 <;> cases f2 <;> rfl
    rw [if_neg c1, if_neg c1]
    by_cases c2 : k1 = 2
    · rw [if_pos c2, if_pos c2, order_j0]
    rw [if_neg c2, if_neg c2]
    by_cases c3 : k1 = 3
    · have g1 : fine b1 := by rw [c3] at h1; exact fine_of h1 p0 p1
      have g2 : fine b2 := by rw [← hk, c3] at h2; exact fine_of h2 q0 q1
      rw [if_pos c3, if_pos c3, ahead_ok k b1 b2 g1 g2, bind_some', ahead_ok k b2 b1 g2 g1, bind_some', order_j0]
    rw [if_neg c3, if_neg c3]
    by_cases c4 : k1 = 4
    · rw [if_pos c4, if_pos c4, order_j0, toList_eq, toList_eq, cb_less]
    rw [if_neg c4, if_neg c4, order_j0]
    subst hk
    rw [decide_eq_false (show ¬ k1 < k1 from by omega)]; rfl
  · rw [if_neg hk, if_neg hk, order_j0]
theorem signV_neg (l m : Bool) (h : ¬ (l = true ∧ m = true)) : signV m l = - signV l m := by
  cases l <;> cases m <;> first | rfl | (exfalso; exact h ⟨rfl, rfl⟩)
theorem cmp_neg (k1 : Int) (f1 : Bool) (n1 b1 : Int) (t1 : ByteArray) (k2 : Int) (f2 : Bool) (n2 b2 : Int) (t2 : ByteArray) : cmpV k2 f2 n2 b2 t2 k1 f1 n1 b1 t1 = - cmpV k1 f1 n1 b1 t1 k2 f2 n2 b2 t2 := by
  unfold cmpV
  by_cases hk : k1 = k2
  · subst hk
    rw [if_pos rfl, if_pos rfl]
    split
    · cases f1 <;> cases f2 <;> rfl
    · split
      · exact signV_neg _ _ (by simp only [decide_eq_true_eq]; omega)
      · split
        · exact signV_neg _ _ (by simp only [decide_eq_true_eq]; omega)
        · split
          · exact cb_neg _ _
          · rfl
  · rw [if_neg hk, if_neg (fun e => hk e.symm)]
    exact signV_neg _ _ (by simp only [decide_eq_true_eq]; omega)
theorem signV_zero (l m : Bool) : signV l m = 0 ↔ l = false ∧ m = false := by cases l <;> cases m <;> simp [signV]
theorem cmp_zero {k1 : Int} {f1 : Bool} {n1 b1 : Int} {t1 : ByteArray} {k2 : Int} {f2 : Bool} {n2 b2 : Int} {t2 : ByteArray} (h1 : rightV k1 f1 n1 b1 t1 = true) (h2 : rightV k2 f2 n2 b2 t2 = true)
    (p0 : 0 ≤ b1) (p1 : b1 < 18446744073709551616) (q0 : 0 ≤ b2) (q1 : b2 < 18446744073709551616) : cmpV k1 f1 n1 b1 t1 k2 f2 n2 b2 t2 = 0 ↔ ((k1, f1, n1, b1, t1) : V5) = (k2, f2, n2, b2, t2) := by
  constructor
  · intro h
    unfold cmpV at h
    by_cases hk : k1 = k2
    · subst hk
      rw [if_pos rfl] at h
      obtain ⟨_, c1⟩ := rightV_cases h1
      obtain ⟨_, c2⟩ := rightV_cases h2
      rcases c1 with ⟨e, rfl, rfl, rfl, rfl⟩ | ⟨e, rfl, rfl, rfl⟩ | ⟨e, rfl, rfl, rfl⟩ | ⟨e, rfl, rfl, rfl⟩ | ⟨e, rfl, rfl, rfl⟩ <;>
      rcases c2 with ⟨e2, rfl, rfl, rfl, rfl⟩ | ⟨e2, rfl, rfl, rfl⟩ | ⟨e2, rfl, rfl, rfl⟩ | ⟨e2, rfl, rfl, rfl⟩ | ⟨e2, rfl, rfl, rfl⟩ <;> first
        | (exfalso; omega)
        | rfl
        | (rw [if_pos e, signV_zero] at h; cases f1 <;> cases f2 <;> first | rfl | (simp at h))
        | (rw [if_neg (by omega), if_pos e, signV_zero] at h; simp only [decide_eq_false_iff_not] at h; rw [show n1 = n2 from by omega])
        | (rw [if_neg (by omega), if_neg (by omega), if_pos e, signV_zero] at h; simp only [decide_eq_false_iff_not] at h; rw [rank_inj p0 p1 q0 q1 (by omega)])
        | (rw [if_neg (by omega), if_neg (by omega), if_neg (by omega), if_pos e, cb_zero] at h; rw [L_inj h])
    · rw [if_neg hk, signV_zero] at h
      simp only [decide_eq_false_iff_not] at h
      omega
  · intro h
    injection h with e1 h; injection h with e2 h; injection h with e3 h; injection h with e4 e5
    subst e1 e2 e3 e4 e5
    have := cmp_neg k1 f1 n1 b1 t1 k1 f1 n1 b1 t1
    omega
theorem signV_le (l m : Bool) : signV l m ≤ 0 ↔ (l = true ∨ m = false) := by cases l <;> cases m <;> simp [signV]
theorem cmp_chain (k1 : Int) (f1 : Bool) (n1 b1 : Int) (t1 : ByteArray) (k2 : Int) (f2 : Bool) (n2 b2 : Int) (t2 : ByteArray) (k3 : Int) (f3 : Bool) (n3 b3 : Int) (t3 : ByteArray)
    (h1 : cmpV k1 f1 n1 b1 t1 k2 f2 n2 b2 t2 ≤ 0) (h2 : cmpV k2 f2 n2 b2 t2 k3 f3 n3 b3 t3 ≤ 0) : cmpV k1 f1 n1 b1 t1 k3 f3 n3 b3 t3 ≤ 0 := by
  unfold cmpV at h1 h2 ⊢
  by_cases e1 : k1 = k2
  · subst e1
    rw [if_pos rfl] at h1
    by_cases e2 : k1 = k3
    · subst e2
      rw [if_pos rfl] at h2 ⊢
      by_cases c1 : k1 = 1
      · rw [if_pos c1] at h1 h2 ⊢
        revert h1 h2
        cases f1 <;> cases f2 <;> cases f3 <;> decide
      rw [if_neg c1] at h1 h2 ⊢
      by_cases c2 : k1 = 2
      · rw [if_pos c2] at h1 h2 ⊢
        rw [signV_le] at h1 h2 ⊢
        simp only [decide_eq_true_eq, decide_eq_false_iff_not] at h1 h2 ⊢
        omega
      rw [if_neg c2] at h1 h2 ⊢
      by_cases c3 : k1 = 3
      · rw [if_pos c3] at h1 h2 ⊢
        rw [signV_le] at h1 h2 ⊢
        simp only [decide_eq_true_eq, decide_eq_false_iff_not] at h1 h2 ⊢
        omega
      rw [if_neg c3] at h1 h2 ⊢
      by_cases c4 : k1 = 4
      · rw [if_pos c4] at h1 h2 ⊢
        exact cb_chain _ _ _ h1 h2
      rw [if_neg c4]
      decide
    · rw [if_neg e2] at h2 ⊢; exact h2
  · rw [if_neg e1, signV_le] at h1
    simp only [decide_eq_true_eq, decide_eq_false_iff_not] at h1
    by_cases e2 : k2 = k3
    · subst e2
      rw [if_neg e1, signV_le]
      simp only [decide_eq_true_eq, decide_eq_false_iff_not]
      omega
    · rw [if_neg e2, signV_le] at h2
      simp only [decide_eq_true_eq, decide_eq_false_iff_not] at h2
      rw [if_neg (by omega), signV_le]
      simp only [decide_eq_true_eq, decide_eq_false_iff_not]
      omega
/-! ## Unlike values have unlike bytes -/
theorem numL_kind (k : Nat) (h : k ≤ 200) : numL k = if k = 0 then [0] else [1, UInt8.ofNat k] := by
  unfold numL
  rcases Nat.eq_zero_or_pos k with rfl | hp
  · rw [digs_zero]; rfl
  · rw [if_neg (by omega), digs_pos hp, show k / 256 = 0 from by omega, digs_zero, Nat.mod_eq_of_lt (by omega)]; rfl
theorem numL_app {a b : Nat} (ha : a ≤ 200) (hb : b ≤ 200) {x y : List UInt8} (h : numL a ++ x = numL b ++ y) : a = b ∧ x = y := by
  rw [numL_kind a ha, numL_kind b hb] at h
  by_cases p : a = 0
  · by_cases q : b = 0
    · rw [if_pos p, if_pos q] at h
      exact ⟨by omega, by simpa using h⟩
    · rw [if_pos p, if_neg q] at h
      simp at h
  · by_cases q : b = 0
    · rw [if_neg p, if_pos q] at h
      simp at h
    · rw [if_neg p, if_neg q] at h
      simp only [List.cons_append, List.nil_append, List.cons.injEq, true_and] at h
      have := congrArg UInt8.toNat h.1
      rw [UInt8.toNat_ofNat', UInt8.toNat_ofNat'] at this
      exact ⟨by omega, h.2⟩
theorem valL_inj {k1 : Int} {f1 : Bool} {n1 b1 : Int} {t1 : ByteArray} {k2 : Int} {f2 : Bool} {n2 b2 : Int} {t2 : ByteArray} (h1 : rightV k1 f1 n1 b1 t1 = true) (h2 : rightV k2 f2 n2 b2 t2 = true)
    (p0 : 0 ≤ b1) (p1 : b1 < 18446744073709551616) (q0 : 0 ≤ b2) (q1 : b2 < 18446744073709551616) (r0 : -9223372036854775808 ≤ n1) (r1 : n1 ≤ 9223372036854775807) (s0 : -9223372036854775808 ≤ n2) (s1 : n2 ≤ 9223372036854775807)
    (h : valL k1 f1 n1 b1 t1 = valL k2 f2 n2 b2 t2) : ((k1, f1, n1, b1, t1) : V5) = (k2, f2, n2, b2, t2) := by
  obtain ⟨ka, kb, _, _⟩ := rightV_facts h1
  obtain ⟨kc, kd, _, _⟩ := rightV_facts h2
  obtain ⟨m1, rfl⟩ := Int.eq_ofNat_of_zero_le ka
  obtain ⟨m2, rfl⟩ := Int.eq_ofNat_of_zero_le kc
  have hL := congrArg L h
  unfold valL at hL
  rw [L_append, L_append, (numI_some (n := (m1 : Int)) (by omega) (by omega)).1, (numI_some (n := (m2 : Int)) (by omega) (by omega)).1, L_B, L_B, Int.toNat_natCast, Int.toNat_natCast] at hL
  obtain ⟨hm, hr⟩ := numL_app (by omega) (by omega) hL
  subst hm
  obtain ⟨ht1, c1⟩ := rightV_cases h1
  obtain ⟨ht2, c2⟩ := rightV_cases h2
  rcases c1 with ⟨e, rfl, rfl, rfl, rfl⟩ | ⟨e, rfl, rfl, rfl⟩ | ⟨e, rfl, rfl, rfl⟩ | ⟨e, rfl, rfl, rfl⟩ | ⟨e, rfl, rfl, rfl⟩ <;>
  rcases c2 with ⟨e2, rfl, rfl, rfl, rfl⟩ | ⟨e2, rfl, rfl, rfl⟩ | ⟨e2, rfl, rfl, rfl⟩ | ⟨e2, rfl, rfl, rfl⟩ | ⟨e2, rfl, rfl, rfl⟩ <;> first
    | (exfalso; omega)
    | rfl
    | (rw [e] at hr; have hr2 : L (flagB f1) = L (flagB f2) := hr; revert hr2; cases f1 <;> cases f2 <;> first | (intro _; rfl) | (intro q; exact absurd q (by decide)))
    | (rw [e] at hr; have hr2 : eightL (n1 % 18446744073709551616).toNat = eightL (n2 % 18446744073709551616).toNat := hr; have := congrArg (val 0) hr2; rw [val_eightL _ (by omega), val_eightL _ (by omega)] at this; rw [show n1 = n2 from by omega])
    | (rw [e] at hr; have hr2 : eightL b1.toNat = eightL b2.toNat := hr; have := congrArg (val 0) hr2; rw [val_eightL _ (by omega), val_eightL _ (by omega)] at this; rw [show b1 = b2 from by omega])
    | (rw [e] at hr
       have hr2 : L (textB t1) = L (textB t2) := hr
       unfold textB at hr2
       rw [L_append, L_append, (numI_some (n := (t1.size : Int)) (by omega) (by omega)).1, (numI_some (n := (t2.size : Int)) (by omega) (by omega)).1, L_B, L_B, Int.toNat_natCast, Int.toNat_natCast] at hr2
       have := (numL_app (by omega) (by omega) hr2).2
       rw [L_inj this])
end Go.Proofs.Ytnedfkfelagmpaa.Q
