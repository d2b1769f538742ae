/- Plain laws of chapter 26: numbers are read as they were written. -/
import Derived.Test.YtpidgdelfaidoaaP26k
namespace Go.Proofs.Ytpidgdelfaidoaa.Pure
open Go Go.Proofs.Ytpidgdelfaidoaa.E Go.Proofs.Ytpidgdelfaidoaa.Eng
set_option linter.unusedVariables false
set_option linter.unusedSimpArgs false
def valF : Nat → Tx → Nat
 | a, [] => a
 | a, c :: w => valF (10 * a + (c.toNat - 48)) w
theorem valF_ge : ∀ (w : Tx) (a : Nat), a ≤ valF a w
 | [], _ => Nat.le_refl _
 | c :: w, a => Nat.le_trans (by omega) (valF_ge w (10 * a + (c.toNat - 48)))
theorem valF_snoc : ∀ (w : Tx) (a : Nat) (c : UInt8), valF a (w ++ [c]) = 10 * valF a w + (c.toNat - 48)
 | [], _, _ => rfl
 | d :: w, a, c => by
  show valF _ (w ++ [c]) = _
  rw [valF_snoc w]; rfl
theorem valF_dig : ∀ n : Nat, valF 0 (digL n) = n := by
 intro n
 induction n using Nat.strongRecOn with
 | _ n ih =>
  have d : ∀ m, m < 10 → (UInt8.ofNat (48 + m)).toNat - 48 = m := by decide
  by_cases h : n < 10
  ·rw [digL_small h]
   show 10 * 0 + ((UInt8.ofNat (48 + n)).toNat - 48) = n
   rw [d n h]; omega
  ·rw [digL_big h, valF_snoc, ih (n / 10) (by omega), d _ (Nat.mod_lt _ (by omega))]
   omega
theorem dig_head : ∀ n : Nat, 0 < n → ∃ c w, digL n = c :: w ∧ c ≠ 48 := by
 intro n
 induction n using Nat.strongRecOn with
 | _ n ih =>
  intro h0
  have d : ∀ m, m < 10 → 0 < m → UInt8.ofNat (48 + m) ≠ 48 := by decide
  by_cases h : n < 10
  ·exact ⟨_, [], digL_small h, d n h h0⟩
  ·obtain ⟨c, w, e, hc⟩ := ih (n / 10) (by omega) (by omega)
   exact ⟨c, w ++ [UInt8.ofNat (48 + n % 10)], by rw [digL_big h, e]; rfl, hc⟩
theorem digits_loop (l : Tx) (hl : l.length ≤ 1000) : ∀ (w : Tx) (a i : Nat), l.drop i = w → i + w.length = l.length → (∀ x ∈ w, digitB x = true) → valF a w < 18446744073709551616 →
  Runs (fun k => say_digits.l0 k (a : Int) (ni l) (((ni l).length : Nat) : Int) (i : Int)) ((((valF a w : Nat) : Int), true, ()), ()) := by
 intro w
 induction w with
 | nil =>
  intro a i hd hi hw hv
  exact Runs.step (fun k => rfl) (Runs.no (by apply decide_eq_false; rw [ni_length]; simp at hi; omega) Runs.some)
 | cons c w ih =>
  intro a i hd hi hw hv
  obtain ⟨hil, hc, hd'⟩ := drop_at hd
  have hdc := hw c (List.mem_cons_self ..)
  have hdd : 48 ≤ c.toNat ∧ c.toNat ≤ 57 := by
   unfold digitB at hdc
   simpa only [Bool.and_eq_true, decide_eq_true_eq] using hdc
  have hge : 10 * a + (c.toNat - 48) < 18446744073709551616 := Nat.lt_of_le_of_lt (valF_ge w _) hv
  have hrd : rdo (ni l) (i : Int) = some ((c.toNat : Nat) : Int) := by
   have hil' : i < (ni l).length := by rw [ni_length]; exact hil
   rw [rdo_at hil']
   simp [ni, hc]
  have e1 : IntKind.wrap .u64 (IntKind.wrap .u8 ((c.toNat : Int) - 48)) = ((c.toNat - 48 : Nat) : Int) := by
   rw [show ((c.toNat : Int) - 48) = ((c.toNat - 48 : Nat) : Int) by omega, wrap_u8 (by omega) (by omega), wrap_u64n (by omega)]
  have nx := ih (10 * a + (c.toNat - 48)) (i + 1) hd' (by simp at hi ⊢; omega) (fun x hx => hw x (List.mem_cons_of_mem _ hx)) hv
  refine Runs.step (fun k => rfl) (Runs.yes (by apply decide_eq_true; rw [ni_length]; omega) (Runs.opt hrd (Runs.ck rfl ?_)))
  rw [e1]
  generalize hq : c.toNat - 48 = q at hge nx ⊢
  have hq9 : q ≤ 9 := by omega
  have e2 : IntKind.wrap .u64 (Int.tdiv (IntKind.wrap .u64 (18446744073709551615 - (q : Int))) 10) = (((18446744073709551615 - q) / 10 : Nat) : Int) := by
   rw [show (18446744073709551615 - (q : Int)) = ((18446744073709551615 - q : Nat) : Int) by omega, wrap_u64n (by omega), show (10 : Int) = ((10 : Nat) : Int) from rfl, tdiv_nn, wrap_u64n (by omega)]
  have e3 : IntKind.wrap .u64 ((IntKind.wrap .u64 (10 * (a : Int))) + (q : Int)) = ((10 * a + q : Nat) : Int) := by
   rw [show (10 * (a : Int)) = ((10 * a : Nat) : Int) by omega, wrap_u64n (by omega), show (((10 * a : Nat) : Int) + (q : Int)) = ((10 * a + q : Nat) : Int) by omega, wrap_u64n (by omega)]
  rw [e2, e3, show IntKind.wrap .i64 ((i : Int) + 1) = ((i + 1 : Nat) : Int) by rw [wrap_i64 (by omega) (by omega)]; rfl]
  refine Runs.no (by apply decide_eq_false; omega) ?_
  have : valF a (c :: w) = valF (10 * a + q) w := by show valF (10 * a + (c.toNat - 48)) w = _; rw [hq]
  rw [this]; exact nx
theorem digits_ok (n : Nat) (h : n < 18446744073709551616) : Runs (fun k => say_digits.f k (tx (digL n))) (((n : Int), true, ()), ()) := by
 have hlen := digL_len 20 n (by omega) (by omega)
 have hne := digL_pos n
 have hpos := List.length_pos_iff.mpr hne
 have hj : Runs (fun k => say_digits.j0 k (tx (digL n))) (((n : Int), true, ()), ()) := by
  have := digits_loop (digL n) (by omega) (digL n) 0 0 rfl (by omega) (digL_digits n) (by rw [valF_dig]; exact h)
  rw [valF_dig] at this
  refine Runs.step (body := fun k => say_digits.l0 k 0 (bytesOf (tx (digL n))) ((bytesOf (tx (digL n))).length : Int) 0) (fun k => rfl) ?_
  rw [bytesOf_tx]; exact this
 refine Runs.step (fun k => rfl) (Runs.no ?_ (Runs.dec (fun h1 => ?_) fun h1 => Runs.no (by apply decide_eq_false; rw [tx_size]; omega) hj))
 ·rw [beq_text]
  exact decide_eq_false (fun e => hne (tx_inj (b := []) e))
 ·rw [tx_size] at h1
  have hn10 : ¬ n < 10 := fun hn => by rw [digL_small hn] at h1; simp at h1
  obtain ⟨c, w, e, hc⟩ := dig_head n (by omega)
  refine Runs.opt (bto_mid (a := []) e) (Runs.no ((u8_nat c 48 (by decide)).trans (decide_eq_false hc)) (Runs.no (by apply decide_eq_false; rw [tx_size]; omega) hj))
def AtT (L : List Tok) (i : Nat) (k : Int) (t : Tx) : Prop := ∃ h : i < L.length, L[i].1 = k ∧ L[i].2.1 = tx t
theorem AtT.rdo {L : List Tok} {i : Nat} {k : Int} {t : Tx} (h : AtT L i k t) : ∃ x : Tok, rdo L (i : Int) = some x ∧ x.1 = k ∧ x.2.1 = tx t := by
 obtain ⟨hi, h1, h2⟩ := h
 exact ⟨L[i], rdo_at hi, h1, h2⟩
theorem AtT.lt {L : List Tok} {i : Nat} {k : Int} {t : Tx} (h : AtT L i k t) : i < L.length := h.1
section
variable (L : List Tok) (hL : L.length ≤ 100000) (e : Int)
include hL
theorem take_ok (i : Nat) (k : Int) (t : Tx) (h : AtT L i k t) : Runs (fun n => say_parser_take.f n k L (i : Int) e (-1)) ((tx t, ()), ((L, ((i + 1 : Nat) : Int), e, (-1), ()), ())) := by
 obtain ⟨x, hx, h1, h2⟩ := h.rdo
 have hlt := h.lt
 have w1 : IntKind.wrap .i64 ((i : Int) + 1) = ((i + 1 : Nat) : Int) := by rw [wrap_i64 (by omega) (by omega)]; rfl
 have w0 : IntKind.wrap .i64 (((i + 1 : Nat) : Int) - 1) = (i : Int) := by rw [wrap_i64 (by omega) (by omega)]; omega
 refine Runs.step (fun n => rfl) (Runs.no (by apply decide_eq_false; omega) (Runs.opt hx (Runs.no (by rw [h1]; simp) ?_)))
 refine Runs.step (body := fun n => (Eng.rdo L (IntKind.wrap .i64 ((IntKind.wrap .i64 ((i : Int) + 1)) - 1))).bind fun t4 => some ((t4.2.1, ()), ((L, IntKind.wrap .i64 ((i : Int) + 1), e, (-1), ()), ()))) (fun n => rfl) ?_
 rw [w1, w0]
 refine Runs.opt hx (Runs.some' ?_)
 rw [h2]
theorem mark_ok (i : Nat) (t : Tx) (h : AtT L i 3 t) : Runs (fun n => say_parser_mark.f n (tx t) L (i : Int) e (-1)) ((()), ((L, ((i + 1 : Nat) : Int), e, (-1), ()), ())) := by
 obtain ⟨x, hx, h1, h2⟩ := h.rdo
 have hlt := h.lt
 have w1 : IntKind.wrap .i64 ((i : Int) + 1) = ((i + 1 : Nat) : Int) := by rw [wrap_i64 (by omega) (by omega)]; rfl
 have pk : Runs (fun n => say_parser_peek.f n (tx t) L (i : Int) e (-1)) ((true, ()), ()) := by
  refine Runs.step (fun n => rfl) (Runs.yes (by apply decide_eq_true; omega) (Runs.opt hx (Runs.yes (by rw [h1]; rfl) (Runs.opt hx (Runs.some' ?_)))))
  rw [h2, beq_text, decide_eq_true rfl]
 refine Runs.step (fun n => rfl) (Runs.bind pk (Runs.no rfl (Runs.some' ?_)))
 rw [w1]
theorem number_ok (i : Nat) (z : Int) (z1 : -9223372036854775808 ≤ z) (z2 : z ≤ 9223372036854775807) (h : AtT L i 1 (wholeL z)) : Runs (fun n => say_parser_number.f n L (i : Int) e (-1)) ((z, ()), ((L, ((i + 1 : Nat) : Int), e, (-1), ()), ())) := by
 have hdg := digits_ok z.natAbs (by omega)
 refine Runs.step (fun n => rfl) (Runs.bind (take_ok L hL e i 1 _ h) (Runs.no rfl ?_))
 by_cases hz : z < 0
 ·have hw : wholeL z = 45 :: digL z.natAbs := by unfold wholeL; rw [if_pos hz]
  have hx : (tx (45 :: digL z.natAbs)).extract ((1 : Int)).toNat ((tx (45 :: digL z.natAbs)).size : Int).toNat = tx (digL z.natAbs) := by
   have := extract_rest (45 :: digL z.natAbs) 1 (by simp)
   exact this
  rw [hw]
  obtain ⟨s, hs⟩ : ∃ s : Tx, s = 45 :: digL z.natAbs := ⟨_, rfl⟩
  rw [← hs] at hx ⊢
  refine Runs.opt (bto_mid (a := []) hs) (Runs.yes rfl (Runs.ck (by simp only [Bool.and_eq_true, decide_eq_true_eq]; rw [tx_size, hs]; simp; omega) ?_))
  rw [hx]
  refine Runs.step (fun n => rfl) (Runs.bind hdg (Runs.no rfl (Runs.no rfl (Runs.yes rfl (Runs.no (by rw [beq_eq_false_iff_ne]; show ((z.natAbs : Nat) : Int) ≠ 0; omega) (Runs.no (by show decide (((z.natAbs : Nat) : Int) > 9223372036854775808) = false; apply decide_eq_false; omega) (Runs.yes rfl (Runs.some' ?_))))))))
  have : IntKind.wrap .i64 (IntKind.wrap .u64 (0 - ((z.natAbs : Nat) : Int))) = z := by
   have hza : (0 - ((z.natAbs : Nat) : Int)) = z := by omega
   rw [hza, wrap_u64z z1 z2, if_pos hz]
   simp only [IntKind.wrap, IntKind.bits, IntKind.signed, Bool.true_and]
   split <;> simp_all <;> omega
  rw [this]
 ·have hw : wholeL z = digL z.natAbs := by unfold wholeL; rw [if_neg hz]
  rw [hw]
  have hne := digL_pos z.natAbs
  have hdd := digL_digits z.natAbs
  obtain ⟨c, w, hcw⟩ : ∃ c w, digL z.natAbs = c :: w := by
   cases hl : digL z.natAbs with
   | nil => exact absurd hl hne
   | cons c w => exact ⟨c, w, rfl⟩
  have hc45 : c ≠ 45 := (digit_not (hdd c (by rw [hcw]; exact List.mem_cons_self ..))).2
  have h45 : ((c.toNat : Int) == 45) = false := (u8_nat c 45 (by decide)).trans (decide_eq_false hc45)
  refine Runs.opt (bto_mid (a := []) hcw) (Runs.no h45 ?_)
  rw [h45]
  refine Runs.step (fun n => rfl) (Runs.bind hdg (Runs.no rfl (Runs.yes rfl (Runs.no (by show decide (((z.natAbs : Nat) : Int) ≥ 9223372036854775808) = false; apply decide_eq_false; omega) (Runs.no rfl (Runs.no rfl (Runs.some' ?_)))))))
  have : IntKind.wrap .i64 ((z.natAbs : Nat) : Int) = z := by rw [wrap_i64n (by omega)]; omega
  rw [this]
end
end Go.Proofs.Ytpidgdelfaidoaa.Pure
