/- Plain laws of chapter 26: tokens. -/
import Derived.Test.YtpidgdelfaidoaaP26i
namespace Go.Proofs.Ytpidgdelfaidoaa.Pure
open Go Go.Proofs.Ytpidgdelfaidoaa.E Go.Proofs.Ytpidgdelfaidoaa.Eng
set_option linter.unusedVariables false
set_option linter.unusedSimpArgs false
abbrev Tok := Int × ByteArray × Int × Unit
def marksT : Tx := [61, 44, 40, 41, 91, 93, 59]
inductive TokW : Int → Tx → Tx → Tx → Prop where
 | word (c : UInt8) (w post : Tx) (hc : letterB c = true) (hw : ∀ x ∈ w, wordC x = true) (hp : ∀ d r, post = d :: r → wordC d = false) : TokW 0 (c :: w) (c :: w) post
 | num (c : UInt8) (w post : Tx) (hc : digitB c = true ∨ (c = 45 ∧ w ≠ [])) (hw : ∀ x ∈ w, digitB x = true) (hp : ∀ d r, post = d :: r → digitB d = false) : TokW 1 (c :: w) (c :: w) post
 | quote (l post : Tx) : TokW 2 l (quotedL l) post
 | mark (c : UInt8) (post : Tx) (hc : c ∈ marksT) : TokW 3 [c] [c] post
theorem cut_of {s w post : Tx} {j : Nat} (hd : s.drop j = w ++ post) : (s.take (j + w.length)).drop j = w := by
 rw [List.drop_take, hd, Nat.add_sub_cancel_left, List.take_left]
theorem len_of {s w post : Tx} {j : Nat} (hd : s.drop j = w ++ post) (hj : j ≤ s.length) : j + w.length ≤ s.length := by
 have := congrArg List.length hd
 simp at this; omega
theorem digit_not {c : UInt8} (h : digitB c = true) : letterB c = false ∧ c ≠ 45 := by
 unfold digitB at h
 simp only [Bool.and_eq_true, decide_eq_true_eq] at h
 constructor
 ·unfold letterB
  simp only [Bool.or_eq_false_iff, Bool.and_eq_false_iff, decide_eq_false_iff_not]
  omega
 ·intro e; subst e; exact absurd h.1 (by decide)
abbrev NextR := ((Int × ByteArray × Int × Unit) × Bool × Int × Unit) × ((ByteArray × Int × Unit) × Unit)
theorem next_tok (s : Tx) (hs : s.length ≤ 1000000) (j : Nat) (hj : j ≤ s.length) (bl w post text : Tx) (kind : Int) (hd : s.drop j = bl ++ (w ++ post)) (hb : BlE (w ++ post) bl) (ht : TokW kind text w post) :
  Runs (fun k => say_lexer_next.f k (tx s) (j : Int)) (((kind, (tx text, (((j + bl.length : Nat) : Int), ()))), true, 0, ()), ((tx s, ((j + bl.length + w.length : Nat) : Int), ()), ())) := by
 have hsz : (tx s).size = s.length := tx_size s
 have hjb := len_of hd hj
 have hd' : s.drop (j + bl.length) = w ++ post := by rw [← List.drop_drop, hd]; simp
 have hblk := blanks_ok s hs (w ++ post) bl hb j hd hj
 obtain ⟨i, hi⟩ : ∃ i, i = j + bl.length := ⟨_, rfl⟩
 rw [← hi] at hblk hd' hjb ⊢
 have hjw := len_of hd' hjb
 have w1 : IntKind.wrap .i64 ((i : Int) + 1) = ((i + 1 : Nat) : Int) := by rw [wrap_i64 (by omega) (by omega)]; rfl
 have w0 : IntKind.wrap .i64 (((i + 1 : Nat) : Int) - 1) = (i : Int) := by rw [wrap_i64 (by omega) (by omega)]; omega
 have hne : w ≠ [] → (((i : Int) == ((tx s).size : Int))) = false := fun h => by
  have := List.length_pos_iff.mpr h
  rw [hsz, beq_eq_false_iff_ne]; omega
 refine Runs.step (fun k => rfl) (Runs.bind hblk (Runs.no ?_ ?_))
 ·refine hne ?_
  cases ht with
  | word => simp
  | num => simp
  | quote l => simp [quotedL]
  | mark => simp
 cases ht with
 | word c w' _ hc hw hp =>
  have hd' : s.drop i = c :: (w' ++ post) := hd'
  refine Runs.opt (bto_at' hd') (Runs.bind (letter_ok c) (Runs.yes hc (Runs.bind (run1_ok s hs (c :: w') post i hd' hjb (fun x hx => ?_) hp) (Runs.some' ?_))))
  ·rcases List.mem_cons.1 hx with h | h
   ·subst h; unfold wordC; rw [hc]; rfl
   ·exact hw x h
  ·rw [cut_of (w := c :: w') hd']
 | num c w' _ hc hw hp =>
  have hd' : s.drop i = c :: (w' ++ post) := hd'
  obtain ⟨hil, hci, hd1⟩ := drop_at hd'
  have hl : letterB c = false := by
   rcases hc with h | ⟨rfl, _⟩
   ·exact (digit_not h).1
   ·rfl
  have hrun := lexrun_ok s hs w' post (i + 1) hd1 (by omega) hw hp
  have hx : (tx s).extract ((i : Int)).toNat (((i + 1 : Nat) : Int)).toNat = tx [c] := by
   have := one_cut hil
   rw [hci] at this; exact this
  have hwl : w'.length ≤ 1000000 := by simp at hjw; omega
  have hne45 : (c :: w') ≠ [45] := by
   rcases hc with h | ⟨_, h⟩
   ·intro e; injection e with e1 _; exact (digit_not h).2 e1
   ·intro e; injection e with _ e2; exact h e2
  have body : Runs (fun k => (ck (decide (0 ≤ IntKind.wrap .i64 ((IntKind.wrap .i64 ((i : Int) + 1)) - 1)) && decide (IntKind.wrap .i64 ((IntKind.wrap .i64 ((i : Int) + 1)) - 1) ≤ IntKind.wrap .i64 ((i : Int) + 1)) && decide (IntKind.wrap .i64 ((i : Int) + 1) ≤ ((tx s).size : Int)))).bind fun _ =>
    (say_lexer_run_v2.f k (tx s) (IntKind.wrap .i64 ((i : Int) + 1))).bind fun r6 => (ck (decide (((tx s).extract (IntKind.wrap .i64 ((IntKind.wrap .i64 ((i : Int) + 1)) - 1) : Int).toNat (IntKind.wrap .i64 ((i : Int) + 1) : Int).toNat).size + r6.1.1.size ≤ 9223372036854775807))).bind fun _ =>
    bif (((tx s).extract (IntKind.wrap .i64 ((IntKind.wrap .i64 ((i : Int) + 1)) - 1) : Int).toNat (IntKind.wrap .i64 ((i : Int) + 1) : Int).toNat) ++ r6.1.1).toList == (⟨#[45]⟩ : ByteArray).toList then some ((((0, (ByteArray.empty, ((i : Int), ()))), false, 4, ()), ((r6.2.1.1, r6.2.1.2.1, ()), ())) : NextR)
    else some (((1, (((tx s).extract (IntKind.wrap .i64 ((IntKind.wrap .i64 ((i : Int) + 1)) - 1) : Int).toNat (IntKind.wrap .i64 ((i : Int) + 1) : Int).toNat) ++ r6.1.1, ((i : Int), ()))), true, 0, ()), ((r6.2.1.1, r6.2.1.2.1, ()), ())))
    ((((1, (tx (c :: w'), (((i : Nat) : Int), ()))), true, 0, ()), ((tx s, ((i + (c :: w').length : Nat) : Int), ()), ())) : NextR) := by
   rw [w1, w0]
   refine Runs.ck (by simp only [Bool.and_eq_true, decide_eq_true_eq]; rw [hsz]; omega) (Runs.bind hrun ?_)
   rw [hx, cut_of hd1]
   refine app_ok (a := [c]) (by simp) hwl (Runs.no ?_ (Runs.some' ?_))
   ·rw [beq_text]
    refine decide_eq_false (fun e => hne45 ?_)
    have e : tx [c] ++ tx w' = tx [45] := e
    rw [← tx_append] at e
    exact tx_inj e
   ·have e : tx [c] ++ tx w' = tx (c :: w') := (tx_append [c] w').symm
    show ((((1, (tx [c] ++ tx w', _)), true, 0, ()), ((tx s, ((i + 1 + w'.length : Nat) : Int), ()), ())) : NextR) = _
    rw [e, show i + 1 + w'.length = i + (c :: w').length by simp; omega]
  refine Runs.opt (bto_at' hd') (Runs.bind (letter_ok c) (Runs.no hl (Runs.bind (digit_ok c) ?_)))
  rcases hc with h | ⟨rfl, _⟩
  ·exact Runs.yes h body
  ·exact Runs.no rfl (Runs.yes rfl body)
 | quote =>
  have hd0 : s.drop i = 34 :: (escs text ++ [34] ++ post) := by rw [hd']; simp [quotedL]
  refine Runs.opt (bto_at' hd0) (Runs.bind (letter_ok 34) (Runs.no rfl (Runs.bind (digit_ok 34) (Runs.no rfl (Runs.no rfl (Runs.yes rfl (Runs.bind (quote_ok s hs _ post i hd') (Runs.no rfl Runs.some))))))))
 | mark c _ hc =>
  have hd' : s.drop i = c :: post := hd'
  obtain ⟨hil, hci, hd1⟩ := drop_at hd'
  have hx : (tx s).extract ((i : Int)).toNat (((i + 1 : Nat) : Int)).toNat = tx [c] := by
   have := one_cut hil
   rw [hci] at this; exact this
  have facts : ∀ c ∈ marksT, letterB c = false ∧ digitB c = false ∧ c ≠ 45 ∧ c ≠ 34 ∧ 0 ≤ Lib.indexByte marksT c := by decide
  obtain ⟨f1, f2, f3, f4, f5⟩ := facts c hc
  refine Runs.opt (bto_at' hd') (Runs.bind (letter_ok c) (Runs.no f1 (Runs.bind (digit_ok c) (Runs.no f2 (Runs.no ((u8_nat c 45 (by decide)).trans (decide_eq_false f3)) (Runs.no ((u8_nat c 34 (by decide)).trans (decide_eq_false f4)) (Runs.bind (idx_ok marksT c) (Runs.yes (decide_eq_true f5) ?_))))))))
  rw [w1, w0]
  refine Runs.ck (by simp only [Bool.and_eq_true, decide_eq_true_eq]; rw [hsz]; omega) (Runs.some' ?_)
  rw [hx]; rfl
theorem next_end (s : Tx) (hs : s.length ≤ 1000000) (j : Nat) (hj : j ≤ s.length) (bl : Tx) (hd : s.drop j = bl) (hb : BlE [] bl) :
  Runs (fun k => say_lexer_next.f k (tx s) (j : Int)) (((0, (ByteArray.empty, (0, ()))), false, 0, ()), ((tx s, ((j + bl.length : Nat) : Int), ()), ())) := by
 have hblk := blanks_ok s hs [] bl hb j (by rw [hd]; simp) hj
 have hl : j + bl.length = s.length := by
  have := congrArg List.length hd
  simp at this; omega
 refine Runs.step (fun k => rfl) (Runs.bind hblk (Runs.yes ?_ Runs.some))
 show (((j + bl.length : Nat) : Int) == ((tx s).size : Int)) = true
 rw [tx_size, hl]; simp
inductive Lx : Tx → List (Int × Tx) → Prop where
 | done (bl : Tx) (h : BlE [] bl) : Lx bl []
 | tok (bl w post text : Tx) (kind : Int) (l : List (Int × Tx)) (hb : BlE (w ++ post) bl) (ht : TokW kind text w post) (h : Lx post l) : Lx (bl ++ (w ++ post)) ((kind, text) :: l)
def tokP (x : Tok) : Int × ByteArray := (x.1, x.2.1)
def tokT (x : Int × Tx) : Int × ByteArray := (x.1, tx x.2)
theorem tokens_loop (s : Tx) (hs : s.length ≤ 1000000) {rest : Tx} {l : List (Int × Tx)} (h : Lx rest l) : ∀ (j : Nat) (out : List Tok), s.drop j = rest → j ≤ s.length → out.length + l.length ≤ 1000000 →
  ∃ L : List Tok, L.map tokP = l.map tokT ∧ Runs (fun k => say_Tokens.l0 k out (tx s) (j : Int)) ((out ++ L, 0, 0, ()), ()) := by
 induction h with
 | done bl hb =>
  intro j out hd hj ho
  refine ⟨[], rfl, ?_⟩
  refine Runs.step (fun k => rfl) (Runs.bind (next_end s hs j hj bl hd hb) (Runs.no rfl (Runs.yes rfl (Runs.some' (by simp)))))
 | tok bl w post text kind l hb ht h ih =>
  intro j out hd hj ho
  have hd1 : s.drop (j + bl.length + w.length) = post := by rw [← List.drop_drop, ← List.drop_drop, hd]; simp
  have hjl : j + bl.length + w.length ≤ s.length := by
   have := len_of (w := bl ++ w) (post := post) (by rw [hd]; simp) hj
   simp at this; omega
  simp only [List.length_cons] at ho
  obtain ⟨L, hL, hr⟩ := ih (j + bl.length + w.length) (out ++ [(kind, (tx text, (((j + bl.length : Nat) : Int), ())))]) hd1 hjl (by simp; omega)
  refine ⟨(kind, (tx text, (((j + bl.length : Nat) : Int), ()))) :: L, by rw [List.map_cons, hL]; rfl, ?_⟩
  refine Runs.step (fun k => rfl) (Runs.bind (next_tok s hs j hj bl w post text kind hd hb ht) (Runs.no rfl (Runs.no rfl (Runs.ck ?_ (hr.of_eq ?_)))))
  ·apply decide_eq_true; show (out.length + 1) * 32 ≤ _; omega
  ·simp
theorem tokens_ok (s : Tx) (hs : s.length ≤ 65536) {l : List (Int × Tx)} (h : Lx s l) (hl : l.length ≤ 100000) : ∃ L : List Tok, L.map tokP = l.map tokT ∧ Runs (fun k => say_Tokens.f k (tx s)) ((L, 0, 0, ()), ()) := by
 obtain ⟨L, h1, h2⟩ := tokens_loop s (by omega) h 0 [] rfl (by omega) (by simp; omega)
 refine ⟨L, h1, Runs.step (fun k => rfl) (Runs.no (by apply decide_eq_false; rw [tx_size]; omega) ?_)⟩
 exact h2
end Go.Proofs.Ytpidgdelfaidoaa.Pure
