/- Plain laws of chapter 26: what is between quotes is read as it was. -/
import Derived.Test.YtpidgdelfaidoaaP26h
namespace Go.Proofs.Ytpidgdelfaidoaa.Pure
open Go Go.Proofs.Ytpidgdelfaidoaa.E Go.Proofs.Ytpidgdelfaidoaa.Eng
set_option linter.unusedVariables false
set_option linter.unusedSimpArgs false
theorem idx_ok (l : Tx) (c : UInt8) : Runs (fun k => strings_IndexByte.f k (tx l) (c.toNat : Int)) ((Lib.indexByte l c, ()), ()) := by
 refine Runs.step (fun k => rfl) (Runs.bind (v := ((Lib.indexByte l c, ()), ())) (Runs.step (fun k => rfl) (Runs.some' ?_)) Runs.some)
 have h1 : (tx l).data.toList = l := tx_list l
 have h2 : ((c.toNat : Int)).toNat.toUInt8 = c := by simp
 rw [h1, h2]
theorem hex_idx : ∀ n, n < 16 → Lib.indexByte hexT (hexU n) = (n : Int) := by decide
theorem or_byte (a b : Nat) (ha : a < 16) (hb : b < 16) : IntKind.wrap .u8 (IntKind.wrap .i64 ((BitVec.ofInt (IntKind.bits .i64) (IntKind.wrap .i64 ((a : Int) * 2 ^ (min (4 : Int).toNat (IntKind.bits .i64)))) ||| BitVec.ofInt (IntKind.bits .i64) (b : Int)).toNat : Int)) = ((16 * a + b : Nat) : Int) := by
 have h : (2 : Int) ^ (min (4 : Int).toNat (IntKind.bits .i64)) = 16 := by decide
 rw [h, show ((a : Int) * 16) = ((16 * a : Nat) : Int) by omega, wrap_i64n (n := 16 * a) (by omega)]
 have e : (BitVec.ofInt (IntKind.bits .i64) ((16 * a : Nat) : Int) ||| BitVec.ofInt (IntKind.bits .i64) (b : Int)).toNat = 16 * a + b := by
  show (BitVec.ofInt 64 ((16 * a : Nat) : Int) ||| BitVec.ofInt 64 (b : Int)).toNat = _
  rw [BitVec.toNat_or]
  have h1 : (BitVec.ofInt 64 ((16 * a : Nat) : Int)).toNat = 16 * a := by rw [BitVec.toNat_ofInt]; omega
  have h2 : (BitVec.ofInt 64 (b : Int)).toNat = b := by rw [BitVec.toNat_ofInt]; omega
  rw [h1, h2]
  exact (Nat.two_pow_add_eq_or_of_lt (i := 4) hb a).symm
 rw [e, wrap_i64n (by omega), wrap_u8 (by omega) (by omega)]
theorem escape_ok (c : UInt8) (r : Tx) : Runs (fun k => say_escape.f k (tx (hexU (c.toNat / 16) :: hexU (c.toNat % 16) :: r))) (((c.toNat : Int), true, ()), ()) := by
 have hc := u8_lt c
 obtain ⟨s, hs⟩ : ∃ s, s = hexU (c.toNat / 16) :: hexU (c.toNat % 16) :: r := ⟨_, rfl⟩
 rw [← hs]
 refine Runs.step (fun k => rfl) (Runs.no (by apply decide_eq_false; rw [tx_size, hs]; simp; omega) ?_)
 refine Runs.opt (bto_mid (a := []) hs) (Runs.bind (idx_ok hexT _) (Runs.opt (bto_mid (a := [hexU (c.toNat / 16)]) hs) (Runs.bind (idx_ok hexT _) (Runs.ck rfl ?_))))
 rw [hex_idx _ (by omega), hex_idx _ (by omega)]
 refine Runs.yes (by show decide (((c.toNat / 16 : Nat) : Int) ≥ 0) = true; apply decide_eq_true; omega) (Runs.some' ?_)
 rw [or_byte _ _ (by omega) (by omega), decide_eq_true (show ((c.toNat % 16 : Nat) : Int) ≥ 0 by omega)]
 congr 2
 have : 16 * (c.toNat / 16) + c.toNat % 16 = c.toNat := Nat.div_add_mod _ _
 rw [this]
theorem drop_at {s : Tx} {j : Nat} {c : UInt8} {r : Tx} (hd : s.drop j = c :: r) : ∃ h : j < s.length, s[j] = c ∧ s.drop (j + 1) = r := by
 have hjl : j < s.length := by
  have := congrArg List.length hd
  simp at this; omega
 have := List.drop_eq_getElem_cons hjl
 rw [hd] at this; injection this with h1 h2
 exact ⟨hjl, h1.symm, h2.symm⟩
theorem bto_at' {s : Tx} {j : Nat} {c : UInt8} {r : Tx} (hd : s.drop j = c :: r) : bto (tx s) (j : Int) = some (c.toNat : Int) := by
 obtain ⟨h, hc, _⟩ := drop_at hd
 rw [bto_tx h, hc]
theorem extract_rest (s : Tx) (j : Nat) (hj : j ≤ s.length) : (tx s).extract ((j : Int)).toNat ((tx s).size : Int).toNat = tx (s.drop j) := by
 rw [Int.toNat_natCast, Int.toNat_natCast, tx_size, tx_extract _ _ _ hj (Nat.le_refl _), List.take_length]
theorem plain_ne {c : UInt8} (h : plainB c = true) : c ≠ 34 ∧ c ≠ 92 := by
 unfold plainB at h
 simp only [Bool.and_eq_true, decide_eq_true_eq] at h
 exact ⟨fun e => h.2.2.1 (by rw [e]; rfl), fun e => h.2.2.2 (by rw [e]; rfl)⟩
abbrev QuoR := (ByteArray × Bool × Unit) × ((ByteArray × Int × Unit) × Unit)
theorem quote_step {W : Nat → Int → Option ((Unit × Unit) × ((Unit × List Int × Unit) × Unit))} {G L : Nat → ByteArray → Int → List Int → Option QuoR} {E : Nat → ByteArray → Int → Option QuoR} {F : Nat → ByteArray → Int → Option QuoR} (o : List Int) (hW : ∀ c : UInt8, Runs (fun k => W k (c.toNat : Int)) (((), ()), (((), o ++ [(c.toNat : Int)], ()), ())))
  (hF : ∀ k (o0 : ByteArray) (o1 : Int), F (k + 1) o0 o1 = bif decide ((o1 : Int) < (o0.size : Int)) then (bto o0 o1).bind fun t9 => bif (t9 : Int) == 34 then E k o0 o1 else
   bif (t9 : Int) == 92 then bif decide ((IntKind.wrap .i64 (o1 + 1) : Int) ≥ (o0.size : Int)) then some (((⟨#[]⟩ : ByteArray), false, ()), ((o0, o1, ()), ())) else
    (bto o0 (IntKind.wrap .i64 (o1 + 1))).bind fun t11 => bif (t11 : Int) != 120 then some (((⟨#[]⟩ : ByteArray), false, ()), ((o0, o1, ()), ())) else
    (ck (decide (0 ≤ IntKind.wrap .i64 (o1 + 2)) && decide (IntKind.wrap .i64 (o1 + 2) ≤ (o0.size : Int)) && decide ((o0.size : Int) ≤ (o0.size : Int)))).bind fun _ =>
    (say_escape.f k (o0.extract (IntKind.wrap .i64 (o1 + 2) : Int).toNat (o0.size : Int).toNat)).bind fun r12 => bif !r12.1.2.1 then some (((⟨#[]⟩ : ByteArray), false, ()), ((o0, o1, ()), ())) else
    (say_plain.f k r12.1.1).bind fun r13 => bif r13.1.1 then some (((⟨#[]⟩ : ByteArray), false, ()), ((o0, o1, ()), ())) else
    (W k r12.1.1).bind fun r14 => L k o0 (IntKind.wrap .i64 (o1 + 4)) r14.2.1.2.1
   else (say_plain.f k t9).bind fun r15 => bif !r15.1.1 then some (((⟨#[]⟩ : ByteArray), false, ()), ((o0, o1, ()), ())) else (W k t9).bind fun r16 => L k o0 (IntKind.wrap .i64 (o1 + 1)) r16.2.1.2.1
   else some (((⟨#[]⟩ : ByteArray), false, ()), ((o0, o1, ()), ())))
  (s : Tx) (hs : s.length ≤ 1000000) (c : UInt8) (rest : Tx) (j : Nat) (hd : s.drop j = esc c ++ rest) {w : QuoR} (nx : Runs (fun k => L k (tx s) ((j + (esc c).length : Nat) : Int) (o ++ [(c.toNat : Int)])) w) : Runs (fun k => F k (tx s) (j : Int)) w := by
 have hsz : (tx s).size = s.length := tx_size s
 have hlen : j + (esc c).length ≤ s.length := by
  by_cases hj : j ≤ s.length
  ·have := congrArg List.length hd
   simp at this; omega
  ·rw [List.drop_of_length_le (by omega)] at hd
   have : esc c = [] := (List.append_eq_nil_iff.mp hd.symm).1
   unfold esc at this; split at this <;> cases this
 cases hp : plainB c with
 | true =>
  obtain ⟨n1, n2⟩ := plain_ne hp
  have he : esc c = [c] := by unfold esc; rw [if_pos hp]
  rw [he] at hd nx hlen
  have hd : s.drop j = c :: rest := hd
  rw [show ((j + ([c] : Tx).length : Nat) : Int) = IntKind.wrap .i64 ((j : Int) + 1) by simp at hlen; rw [wrap_i64 (by omega) (by omega)]; rfl] at nx
  simp at hlen
  refine Runs.step (fun k => hF k _ _) (Runs.yes (by apply decide_eq_true; rw [hsz]; omega) (Runs.opt (bto_at' hd) (Runs.no ((u8_nat c 34 (by decide)).trans (decide_eq_false n1)) (Runs.no ((u8_nat c 92 (by decide)).trans (decide_eq_false n2)) (Runs.bind (plain_ok c) (Runs.no (by rw [hp]; rfl) (Runs.bind (hW c) nx)))))))
 | false =>
  have he : esc c = [92, 120, hexU (c.toNat / 16), hexU (c.toNat % 16)] := by unfold esc; rw [if_neg (by rw [hp]; decide)]
  rw [he] at hd nx hlen
  simp at hlen
  have hd : s.drop j = 92 :: 120 :: hexU (c.toNat / 16) :: hexU (c.toNat % 16) :: rest := hd
  obtain ⟨_, _, hd1⟩ := drop_at hd
  obtain ⟨_, _, hd2⟩ := drop_at hd1
  rw [show ((j + ([92, 120, hexU (c.toNat / 16), hexU (c.toNat % 16)] : Tx).length : Nat) : Int) = IntKind.wrap .i64 ((j : Int) + 4) by rw [wrap_i64 (by omega) (by omega)]; rfl] at nx
  have w1 : IntKind.wrap .i64 ((j : Int) + 1) = ((j + 1 : Nat) : Int) := by rw [wrap_i64 (by omega) (by omega)]; rfl
  have w2 : IntKind.wrap .i64 ((j : Int) + 2) = ((j + 2 : Nat) : Int) := by rw [wrap_i64 (by omega) (by omega)]; rfl
  refine Runs.step (fun k => hF k _ _) (Runs.yes (by apply decide_eq_true; rw [hsz]; omega) (Runs.opt (bto_at' hd) (Runs.no rfl (Runs.yes rfl ?_))))
  rw [w1, w2]
  refine Runs.no (by apply decide_eq_false; rw [hsz]; omega) (Runs.opt (bto_at' hd1) (Runs.no rfl (Runs.ck (by simp only [Bool.and_eq_true, decide_eq_true_eq]; rw [hsz]; omega) ?_)))
  rw [extract_rest s (j + 2) (by omega), hd2]
  exact Runs.bind (escape_ok c rest) (Runs.no rfl (Runs.bind (plain_ok c) (Runs.no hp (Runs.bind (hW c) nx))))
theorem quote_l1 (s : Tx) (hs : s.length ≤ 1000000) (b : Tx) : ∀ (r o : Tx) (j : Nat), s.drop j = escs r ++ 34 :: b → o ≠ [] → o.length ≤ j →
  Runs (fun k => say_lexer_quote.l1 k (tx s) (j : Int) (ni o)) ((tx (o ++ r), true, ()), ((tx s, ((j + (escs r).length + 1 : Nat) : Int), ()), ())) := by
 have hsz : (tx s).size = s.length := tx_size s
 intro r
 induction r with
 | nil =>
  intro o j hd ho hol
  have hd : s.drop j = 34 :: b := hd
  obtain ⟨hj, _, _⟩ := drop_at hd
  refine Runs.step (fun k => rfl) (Runs.yes (by apply decide_eq_true; rw [hsz]; omega) (Runs.opt (bto_at' hd) (Runs.yes rfl (Runs.bind (str_ok o ho (by omega)) (Runs.some' ?_)))))
  rw [show IntKind.wrap .i64 ((j : Int) + 1) = ((j + 1 : Nat) : Int) by rw [wrap_i64 (by omega) (by omega)]; rfl]
  simp [escs]
 | cons c r ih =>
  intro o j hd ho hol
  have hd : s.drop j = esc c ++ (escs r ++ 34 :: b) := by rw [hd]; simp [escs]
  have hel : 0 < (esc c).length := by unfold esc; split <;> simp
  have hd' : s.drop (j + (esc c).length) = escs r ++ 34 :: b := by rw [← List.drop_drop, hd]; simp
  have nx := ih (o ++ [c]) (j + (esc c).length) hd' (by simp) (by simp; omega)
  have e : ni (o ++ [c]) = ni o ++ [(c.toNat : Int)] := by rw [ni_append]; rfl
  rw [e] at nx
  have hjl : j ≤ s.length := by
   by_cases hj : j ≤ s.length
   ·exact hj
   ·rw [List.drop_of_length_le (by omega)] at hd
    have := (List.append_eq_nil_iff.mp hd.symm).2
    simp at this
  refine quote_step (W := fun k c => strings_Builder_WriteByte_v1.f k c (ni o)) (G := fun k a b c => say_lexer_quote.l1 k a b c) (L := fun k a b c => say_lexer_quote.l1 k a b c) (E := fun k a b => (strUsed.f k (ni o)).bind fun r10 => some ((r10.1.1, true, ()), ((a, IntKind.wrap .i64 (b + 1), ()), ()))) (F := fun k a b => say_lexer_quote.l1 k a b (ni o)) (ni o) (fun c => wb1_ok _ _ (by rw [ni_length]; omega)) (fun k o0 o1 => rfl) s hs c _ j hd (nx.of_eq ?_)
  simp [escs]; omega
theorem quote_ok (s : Tx) (hs : s.length ≤ 1000000) (l b : Tx) (j : Nat) (hd : s.drop j = quotedL l ++ b) :
  Runs (fun k => say_lexer_quote.f k (tx s) (j : Int)) ((tx l, true, ()), ((tx s, ((j + (quotedL l).length : Nat) : Int), ()), ())) := by
 have hsz : (tx s).size = s.length := tx_size s
 have hd : s.drop j = 34 :: (escs l ++ 34 :: b) := by rw [hd]; simp [quotedL]
 obtain ⟨hj, _, hd1⟩ := drop_at hd
 refine Runs.step (body := fun k => say_lexer_quote.l0 k (tx s) (IntKind.wrap .i64 ((j : Int) + 1))) (fun k => rfl) ?_
 rw [show IntKind.wrap .i64 ((j : Int) + 1) = ((j + 1 : Nat) : Int) by rw [wrap_i64 (by omega) (by omega)]; rfl]
 cases l with
 | nil =>
  have hd1 : s.drop (j + 1) = 34 :: b := hd1
  obtain ⟨hj1, _, _⟩ := drop_at hd1
  refine Runs.step (fun k => rfl) (Runs.yes (by apply decide_eq_true; rw [hsz]; omega) (Runs.opt (bto_at' hd1) (Runs.yes rfl (Runs.some' ?_))))
  rw [show IntKind.wrap .i64 (((j + 1 : Nat) : Int) + 1) = ((j + 2 : Nat) : Int) by rw [wrap_i64 (by omega) (by omega)]; rfl]
  rfl
 | cons c r =>
  have hd1 : s.drop (j + 1) = esc c ++ (escs r ++ 34 :: b) := by rw [hd1]; simp [escs]
  have hel : 0 < (esc c).length := by unfold esc; split <;> simp
  have hd2 : s.drop (j + 1 + (esc c).length) = escs r ++ 34 :: b := by rw [← List.drop_drop, hd1]; simp
  have nx := quote_l1 s hs b r [c] (j + 1 + (esc c).length) hd2 (by simp) (by simp; omega)
  refine quote_step (W := fun k c => strings_Builder_WriteByte_v0.f k c) (G := fun k a b c => say_lexer_quote.l1 k a b c) (L := fun k a b c => say_lexer_quote.l1 k a b c) (E := fun k a b => (strFresh.f k).bind fun r2 => some ((r2.1.1, true, ()), ((a, IntKind.wrap .i64 (b + 1), ()), ()))) (F := fun k a b => say_lexer_quote.l0 k a b) [] (fun c => wb0_ok _) (fun k o0 o1 => rfl) s hs c _ (j + 1) hd1 (nx.of_eq ?_)
  simp [escs, quotedL]; omega
end Go.Proofs.Ytpidgdelfaidoaa.Pure
