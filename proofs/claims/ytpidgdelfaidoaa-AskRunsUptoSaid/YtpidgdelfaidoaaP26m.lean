/- Plain laws of chapter 26: values are read as they were written. -/
import Derived.Test.YtpidgdelfaidoaaP26l
namespace Go.Proofs.Ytpidgdelfaidoaa.Pure
open Go Go.Proofs.Ytpidgdelfaidoaa.E Go.Proofs.Ytpidgdelfaidoaa.Eng
set_option linter.unusedVariables false
set_option linter.unusedSimpArgs false
theorem txt_eq (a b : Tx) : ((tx a).toList == (tx b).toList) = decide (a = b) := by
 rw [beq_text, Bool.eq_iff_iff]
 simp only [decide_eq_true_eq]
 exact ⟨tx_inj, fun h => by rw [h]⟩
theorem nibble_ok : ∀ n, n < 16 → Runs (fun k => say_nibble.f k ((hexU n).toNat : Int)) (((n : Int), ()), ()) := by
 intro n hn
 refine Runs.step (fun k => rfl) (Runs.bind (digit_ok (hexU n)) ?_)
 by_cases h : n < 10
 ·have f : ∀ n, n < 10 → digitB (hexU n) = true ∧ (hexU n).toNat = 48 + n := by decide
  obtain ⟨f1, f2⟩ := f n h
  refine Runs.yes f1 (Runs.some' ?_)
  rw [f2, show (((48 + n : Nat) : Int) - 48) = (n : Int) by omega, wrap_u8 (by omega) (by omega), wrap_i64n (by omega)]
 ·have f : ∀ n, n < 16 → ¬ n < 10 → digitB (hexU n) = false ∧ (hexU n).toNat = 87 + n := by decide
  obtain ⟨f1, f2⟩ := f n hn h
  refine Runs.no f1 ?_
  rw [f2]
  refine Runs.yes (by apply decide_eq_true; omega) (Runs.yes (by apply decide_eq_true; omega) (Runs.some' ?_))
  rw [show (((87 + n : Nat) : Int) - 97) = ((n - 10 : Nat) : Int) by omega, wrap_u8 (by omega) (by omega), wrap_i64n (by omega), show (((n - 10 : Nat) : Int) + 10) = (n : Int) by omega, wrap_i64n (by omega)]
theorem or_nib (a d : Nat) (hd : d < 16) (h : 16 * a + d < 18446744073709551616) : IntKind.wrap .u64 ((BitVec.ofInt (IntKind.bits .u64) (IntKind.wrap .u64 ((a : Int) * 2 ^ (min (4 : Int).toNat (IntKind.bits .u64)))) ||| BitVec.ofInt (IntKind.bits .u64) (IntKind.wrap .u64 (d : Int))).toNat : Int) = ((16 * a + d : Nat) : Int) := by
 have h4 : (2 : Int) ^ (min (4 : Int).toNat (IntKind.bits .u64)) = 16 := by decide
 rw [h4, show ((a : Int) * 16) = ((16 * a : Nat) : Int) by omega, wrap_u64n (n := 16 * a) (by omega), wrap_u64n (n := d) (by omega)]
 have e : (BitVec.ofInt (IntKind.bits .u64) ((16 * a : Nat) : Int) ||| BitVec.ofInt (IntKind.bits .u64) (d : Int)).toNat = 16 * a + d := by
  show (BitVec.ofInt 64 ((16 * a : Nat) : Int) ||| BitVec.ofInt 64 (d : Int)).toNat = _
  rw [BitVec.toNat_or]
  have h1 : (BitVec.ofInt 64 ((16 * a : Nat) : Int)).toNat = 16 * a := by rw [BitVec.toNat_ofInt]; omega
  have h2 : (BitVec.ofInt 64 (d : Int)).toNat = d := by rw [BitVec.toNat_ofInt]; omega
  rw [h1, h2]
  exact (Nat.two_pow_add_eq_or_of_lt (i := 4) hd a).symm
 rw [e, wrap_u64n (by omega)]
theorem hexD_at : ∀ (m b i : Nat), i < m → (hexD m b)[i]? = some (hexU (b / 16 ^ (m - 1 - i) % 16))
 | 0, _, _, h => absurd h (Nat.not_lt_zero _)
 | m + 1, b, 0, _ => by simp [hexD]
 | m + 1, b, i + 1, h => by
  simp only [hexD, List.getElem?_cons_succ]
  rw [hexD_at m b i (by omega), show m - 1 - i = m + 1 - 1 - (i + 1) by omega]
section
variable (L : List Tok) (hL : L.length ≤ 100000) (e : Int)
include hL
theorem pfloat_loop (b : Nat) (hb : b < 18446744073709551616) (x3 : Int) (j : Nat) (h3 : AtT L j 3 [41]) (o20 : Int) (o21 : Bool) (o22 o23 : Int) (o24 : ByteArray) : ∀ (m i : Nat), m + i = 16 →
  Runs (fun n => say_parser_float.l0 n x3 (tx (hexD 16 b)) 16 (i : Int) L (j : Int) e (-1) o20 o21 o22 o23 o24 3 false 0 ((b / 16 ^ m : Nat) : Int) ByteArray.empty) (((3, (false, (0, ((b : Int), (ByteArray.empty, ()))))), ()), ((L, ((j + 1 : Nat) : Int), e, (-1), ()), ())) := by
 have hsz : (tx (hexD 16 b)).size = 16 := by rw [tx_size, hexD_len]
 intro m
 induction m with
 | zero =>
  intro i hi
  refine Runs.step (fun n => rfl) (Runs.no (by apply decide_eq_false; omega) (Runs.no ?_ (Runs.bind (mark_ok L hL e j [41] h3) (Runs.some' ?_))))
  ·rw [nil_tx, txt_eq]
   exact decide_eq_false (fun h => by have := congrArg List.length h; rw [hexD_len] at this; cases this)
  ·rw [Nat.pow_zero, Nat.div_one]
 | succ m ih =>
  intro i hi
  have hil : i < (hexD 16 b).length := by rw [hexD_len]; omega
  have hat := hexD_at 16 b i (by omega)
  rw [List.getElem?_eq_getElem hil] at hat
  injection hat with hat
  rw [show 16 - 1 - i = m by omega] at hat
  have hmod : b / 16 ^ m % 16 < 16 := Nat.mod_lt _ (by omega)
  have hdiv : b / 16 ^ m ≤ b := Nat.div_le_self _ _
  have hacc : 16 * (b / 16 ^ (m + 1)) + b / 16 ^ m % 16 = b / 16 ^ m := by
   rw [Nat.pow_succ, ← Nat.div_div_eq_div_mul]; exact Nat.div_add_mod _ _
  refine Runs.step (fun n => rfl) (Runs.yes (by apply decide_eq_true; omega) (Runs.opt (bto_tx hil) ?_))
  rw [hat]
  refine Runs.bind (nibble_ok _ hmod) (Runs.no (by show decide ((((b / 16 ^ m % 16 : Nat) : Int)) < 0) = false; apply decide_eq_false; omega) (Runs.no (by rw [hsz]; rfl) (Runs.ck rfl ?_)))
  have nx := ih (i + 1) (by omega)
  rw [show ((i + 1 : Nat) : Int) = IntKind.wrap .i64 ((i : Int) + 1) by rw [wrap_i64 (by omega) (by omega)]; rfl, ← hacc, ← or_nib _ _ hmod (by rw [hacc]; omega)] at nx
  exact nx
theorem pfloat_ok (b : Nat) (hb : b < 18446744073709551616) (i : Nat) (h1 : AtT L i 3 [40]) (h2 : AtT L (i + 1) 2 (hexD 16 b)) (h3 : AtT L (i + 2) 3 [41]) :
  Runs (fun n => say_parser_float.f n L (i : Int) e (-1)) (((3, (false, (0, ((b : Int), (ByteArray.empty, ()))))), ()), ((L, ((i + 3 : Nat) : Int), e, (-1), ()), ())) := by
 refine Runs.step (fun n => rfl) (Runs.bind (mark_ok L hL e i [40] h1) (Runs.bind (take_ok L hL e (i + 1) 2 _ h2) (Runs.no rfl ?_)))
 have := pfloat_loop L hL e b hb ((i + 1 : Nat) : Int) (i + 2) h3 0 false 0 0 ByteArray.empty 16 0 (by omega)
 have h0 : b / 16 ^ 16 = 0 := Nat.div_eq_of_lt (by omega)
 rw [h0] at this
 have hsz : ((tx (hexD 16 b)).size : Int) = 16 := by rw [tx_size, hexD_len]; rfl
 show Runs (fun n => say_parser_float.l0 n ((i + 1 : Nat) : Int) (tx (hexD 16 b)) ((tx (hexD 16 b)).size : Int) 0 L (((i + 1) + 1 : Nat) : Int) e (-1) 0 false 0 0 ByteArray.empty 3 false 0 0 ByteArray.empty) _
 rw [hsz]
 exact this
inductive VForm : ValueT → Prop where
 | null : VForm (0, (false, (0, (0, (ByteArray.empty, ())))))
 | bool (b : Bool) : VForm (1, (b, (0, (0, (ByteArray.empty, ())))))
 | int (z : Int) (h1 : -9223372036854775808 ≤ z) (h2 : z ≤ 9223372036854775807) : VForm (2, (false, (z, (0, (ByteArray.empty, ())))))
 | flt (b : Nat) (h : b < 18446744073709551616) : VForm (3, (false, (0, ((b : Int), (ByteArray.empty, ())))))
 | text (s : ByteArray) : VForm (4, (false, (0, (0, (s, ())))))
def AtL (L : List Tok) (i : Nat) (l : Tks) : Prop := ∀ j k t, l[j]? = some (k, t) → AtT L (i + j) k t
theorem pvalue_ok (v : ValueT) (hv : VForm v) (i : Nat) (h : AtL L i (valT v)) : Runs (fun n => say_parser_value.f n L (i : Int) e (-1)) ((v, ()), ((L, ((i + (valT v).length : Nat) : Int), e, (-1), ()), ())) := by
 have hlt : 0 < (valT v).length → i < L.length := fun h0 => by
  have := (h 0 (valT v)[0].1 (valT v)[0].2 (by rw [List.getElem?_eq_getElem h0])).lt
  simpa using this
 cases hv with
 | null =>
  have h0 : AtT L i 0 [110, 117, 108, 108] := h 0 _ _ rfl
  obtain ⟨x, hx, h1, h2⟩ := h0.rdo
  have := h0.lt
  have w1 : IntKind.wrap .i64 ((i : Int) + 1) = ((i + 1 : Nat) : Int) := by rw [wrap_i64 (by omega) (by omega)]; rfl
  refine Runs.step (fun n => rfl) (Runs.no (by apply decide_eq_false; omega) (Runs.step (fun n => rfl) (Runs.opt hx ?_)))
  rw [h1, h2]
  refine Runs.no rfl (Runs.no rfl (Runs.yes rfl (Runs.bind (Runs.step (fun n => rfl) (Runs.yes ((txt_eq _ [110, 117, 108, 108]).trans rfl) Runs.some)) (Runs.some' ?_))))
  rw [w1]; rfl
 | bool b =>
  have h0 : AtT L i 0 (if b = true then [116, 114, 117, 101] else [102, 97, 108, 115, 101]) := h 0 _ _ rfl
  obtain ⟨x, hx, h1, h2⟩ := h0.rdo
  have := h0.lt
  have w1 : IntKind.wrap .i64 ((i : Int) + 1) = ((i + 1 : Nat) : Int) := by rw [wrap_i64 (by omega) (by omega)]; rfl
  refine Runs.step (fun n => rfl) (Runs.no (by apply decide_eq_false; omega) (Runs.step (fun n => rfl) (Runs.opt hx ?_)))
  rw [h1, h2]
  cases b
  ·refine Runs.no rfl (Runs.no rfl (Runs.yes rfl (Runs.bind (Runs.step (fun n => rfl) (Runs.no ((txt_eq [102, 97, 108, 115, 101] [110, 117, 108, 108]).trans rfl) (Runs.no ((txt_eq [102, 97, 108, 115, 101] [116, 114, 117, 101]).trans rfl) (Runs.step (fun n => rfl) (Runs.yes ((txt_eq [102, 97, 108, 115, 101] [102, 97, 108, 115, 101]).trans rfl) Runs.some))))) (Runs.some' ?_))))
   rw [w1]
   have : ((tx [102, 97, 108, 115, 101]).toList == (⟨#[116, 114, 117, 101]⟩ : ByteArray).toList) = false := (txt_eq [102, 97, 108, 115, 101] [116, 114, 117, 101]).trans rfl
   show (((1, ((tx [102, 97, 108, 115, 101]).toList == (⟨#[116, 114, 117, 101]⟩ : ByteArray).toList, _)), ()), _) = _
   rw [this]; rfl
  ·refine Runs.no rfl (Runs.no rfl (Runs.yes rfl (Runs.bind (Runs.step (fun n => rfl) (Runs.no ((txt_eq [116, 114, 117, 101] [110, 117, 108, 108]).trans rfl) (Runs.yes ((txt_eq [116, 114, 117, 101] [116, 114, 117, 101]).trans rfl) (Runs.step (fun n => rfl) (Runs.yes ((txt_eq [116, 114, 117, 101] [116, 114, 117, 101]).trans rfl) Runs.some))))) (Runs.some' ?_))))
   rw [w1]
   have : ((tx [116, 114, 117, 101]).toList == (⟨#[116, 114, 117, 101]⟩ : ByteArray).toList) = true := (txt_eq [116, 114, 117, 101] [116, 114, 117, 101]).trans rfl
   show (((1, ((tx [116, 114, 117, 101]).toList == (⟨#[116, 114, 117, 101]⟩ : ByteArray).toList, _)), ()), _) = _
   rw [this]; rfl
 | int z z1 z2 =>
  have h0 : AtT L i 1 (wholeL z) := h 0 _ _ rfl
  obtain ⟨x, hx, h1, h2⟩ := h0.rdo
  have := h0.lt
  refine Runs.step (fun n => rfl) (Runs.no (by apply decide_eq_false; omega) (Runs.step (fun n => rfl) (Runs.opt hx (Runs.yes (by rw [h1]; rfl) (Runs.bind (number_ok L hL e i z z1 z2 h0) Runs.some)))))
 | flt b hb =>
  have hbt : ((b : Int)).toNat = b := Int.toNat_natCast b
  have hT : valT (3, (false, (0, ((b : Int), (ByteArray.empty, ()))))) = [(0, [102, 108, 111, 97, 116]), (3, [40]), (2, hexD 16 b), (3, [41])] := by
   show [((0 : Int), _), (3, _), (2, hexD 16 ((b : Int)).toNat), (3, _)] = _
   rw [hbt]
  rw [hT] at h ⊢
  have h0 : AtT L i 0 [102, 108, 111, 97, 116] := h 0 _ _ rfl
  have f1 : AtT L (i + 1) 3 [40] := h 1 _ _ rfl
  have f2 : AtT L (i + 2) 2 (hexD 16 b) := h 2 _ _ rfl
  have f3 : AtT L (i + 3) 3 [41] := h 3 _ _ rfl
  obtain ⟨x, hx, h1, h2⟩ := h0.rdo
  have := h0.lt
  have w1 : IntKind.wrap .i64 ((i : Int) + 1) = ((i + 1 : Nat) : Int) := by rw [wrap_i64 (by omega) (by omega)]; rfl
  have pf := pfloat_ok L hL e b hb (i + 1) f1 f2 f3
  rw [← w1] at pf
  refine Runs.step (fun n => rfl) (Runs.no (by apply decide_eq_false; omega) (Runs.step (fun n => rfl) (Runs.opt hx ?_)))
  rw [h1, h2]
  refine Runs.no rfl (Runs.no rfl (Runs.yes rfl (Runs.bind (Runs.step (fun n => rfl) (Runs.no ((txt_eq [102, 108, 111, 97, 116] [110, 117, 108, 108]).trans rfl) (Runs.no ((txt_eq [102, 108, 111, 97, 116] [116, 114, 117, 101]).trans rfl) (Runs.step (fun n => rfl) (Runs.no ((txt_eq [102, 108, 111, 97, 116] [102, 97, 108, 115, 101]).trans rfl) (Runs.yes ((txt_eq [102, 108, 111, 97, 116] [102, 108, 111, 97, 116]).trans rfl) (Runs.bind pf Runs.some))))))) (Runs.some' rfl))))
 | text s =>
  have h0 : AtT L i 2 s.data.toList := h 0 _ _ rfl
  obtain ⟨x, hx, h1, h2⟩ := h0.rdo
  have := h0.lt
  have w1 : IntKind.wrap .i64 ((i : Int) + 1) = ((i + 1 : Nat) : Int) := by rw [wrap_i64 (by omega) (by omega)]; rfl
  refine Runs.step (fun n => rfl) (Runs.no (by apply decide_eq_false; omega) (Runs.step (fun n => rfl) (Runs.opt hx ?_)))
  rw [h1, h2, tx_self]
  refine Runs.no rfl (Runs.yes rfl (Runs.some' ?_))
  rw [w1]; rfl
theorem takeValue_ok (v : ValueT) (hv : VForm v) (h : AtL L 0 (valT v)) : Runs (fun n => say_TakeValue.f n L) ((v, (((valT v).length : Nat) : Int), true, ()), ()) := by
 have p := pvalue_ok L hL 0 v hv 0 h
 rw [Nat.zero_add] at p
 exact Runs.step (fun n => rfl) (Runs.bind p (Runs.no rfl Runs.some))
end
end Go.Proofs.Ytpidgdelfaidoaa.Pure
