/- Plain laws of chapter 26: signs, blanks, runs, and what is between quotes, as the program reads them. -/
import Derived.Test.YtpidgdelfaidoaaP26g
namespace Go.Proofs.Ytpidgdelfaidoaa.Pure
open Go Go.Proofs.Ytpidgdelfaidoaa.E Go.Proofs.Ytpidgdelfaidoaa.Eng
set_option linter.unusedVariables false
set_option linter.unusedSimpArgs false
def digitB (c : UInt8) : Bool := decide (48 ≤ c.toNat) && decide (c.toNat ≤ 57)
def letterB (c : UInt8) : Bool := (decide (97 ≤ c.toNat) && decide (c.toNat ≤ 122)) || ((decide (65 ≤ c.toNat) && decide (c.toNat ≤ 90)) || decide (c.toNat = 95))
def wordC (c : UInt8) : Bool := letterB c || digitB c
theorem sign_nums (n : Nat) : decide ((n : Int) ≥ 48) = decide (48 ≤ n) ∧ decide ((n : Int) ≤ 57) = decide (n ≤ 57) ∧ decide ((n : Int) ≥ 97) = decide (97 ≤ n) ∧ decide ((n : Int) ≤ 122) = decide (n ≤ 122) ∧ decide ((n : Int) ≥ 65) = decide (65 ≤ n) ∧ decide ((n : Int) ≤ 90) = decide (n ≤ 90) ∧ ((n : Int) == 95) = decide (n = 95) := by
  refine ⟨?_, ?_, ?_, ?_, ?_, ?_, ?_⟩ <;> rw [Bool.eq_iff_iff] <;> simp <;> omega
theorem digit_ok (c : UInt8) : Runs (fun k => say_digit.f k (c.toNat : Int)) ((digitB c, ()), ()) := by
  obtain ⟨h1, h2, _⟩ := sign_nums c.toNat
  refine ⟨1, fun k hk => ?_⟩
  obtain ⟨k, rfl⟩ : ∃ q, k = q + 1 := ⟨k - 1, by omega⟩
  show (bif decide ((c.toNat : Int) ≥ 48) then some (((decide ((c.toNat : Int) ≤ 57), ()), ()) : V1 Bool) else some ((false, ()), ())) = _
  unfold digitB
  rw [h1, h2]
  cases decide (48 ≤ c.toNat) <;> rfl
theorem letter_ok (c : UInt8) : Runs (fun k => say_letter.f k (c.toNat : Int)) ((letterB c, ()), ()) := by
  obtain ⟨_, _, h3, h4, h5, h6, h7⟩ := sign_nums c.toNat
  refine ⟨1, fun k hk => ?_⟩
  obtain ⟨k, rfl⟩ : ∃ q, k = q + 1 := ⟨k - 1, by omega⟩
  show (bif decide ((c.toNat : Int) ≥ 97) then bif decide ((c.toNat : Int) ≤ 122) then some (((true, ()), ()) : V1 Bool) else bif decide ((c.toNat : Int) ≥ 65) then bif decide ((c.toNat : Int) ≤ 90) then some ((true, ()), ()) else some (((c.toNat : Int) == 95, ()), ()) else some (((c.toNat : Int) == 95, ()), ())
    else bif decide ((c.toNat : Int) ≥ 65) then bif decide ((c.toNat : Int) ≤ 90) then some ((true, ()), ()) else some (((c.toNat : Int) == 95, ()), ()) else some (((c.toNat : Int) == 95, ()), ())) = _
  unfold letterB
  rw [h3, h4, h5, h6, h7]
  cases decide (97 ≤ c.toNat) <;> cases decide (c.toNat ≤ 122) <;> cases decide (65 ≤ c.toNat) <;> cases decide (c.toNat ≤ 90) <;> rfl
theorem wordC_ok (c : UInt8) : Runs (fun k => say_lexer_next_1.f k (c.toNat : Int)) ((wordC c, ()), ()) := by
  refine Runs.step (fun k => rfl) (Runs.bind (letter_ok c) (Runs.cond (fun h => Runs.some' ?_) fun h => Runs.bind (digit_ok c) (Runs.some' ?_)))
  · have h : letterB c = true := h
    unfold wordC; rw [h]; rfl
  · have h : letterB c = false := h
    unfold wordC; rw [h]; rfl
def noLine (c : UInt8) : Bool := c != 10
theorem noLine_ok (c : UInt8) : Runs (fun k => say_lexer_blanks_1.f k (c.toNat : Int)) ((noLine c, ()), ()) := by
  refine Runs.step (fun k => rfl) (Runs.some' ?_)
  have : ((c.toNat : Int) != 10) = noLine c := by
    unfold noLine
    rw [Bool.eq_iff_iff]
    simp only [bne_iff_ne, ne_eq]
    constructor
    · intro h e; subst e; exact h rfl
    · intro h e; exact h (UInt8.toNat_inj.mp (by have : c.toNat = 10 := by omega
                                                 rw [this]; rfl))
  rw [this]
abbrev LexR := (ByteArray × Unit) × ((ByteArray × Int × Unit) × Unit)
theorem run_gen {F : Nat → Int → ByteArray → Int → Option LexR} {H : Nat → Int → Option (V1 Bool)} {B : UInt8 → Bool} (hH : ∀ c : UInt8, Runs (fun k => H k (c.toNat : Int)) ((B c, ()), ()))
    (hF : ∀ k (x5 : Int) (o0 : ByteArray) (o1 : Int), F (k + 1) x5 o0 o1 = bif decide ((o1 : Int) < (o0.size : Int)) then (bto o0 o1).bind fun t1 => (H k t1).bind fun r2 => bif r2.1.1 then F k x5 o0 (IntKind.wrap .i64 (o1 + 1)) else (ck (decide (0 ≤ x5) && decide (x5 ≤ o1) && decide (o1 ≤ (o0.size : Int)))).bind fun _ => some ((o0.extract x5.toNat o1.toNat, ()), ((o0, o1, ()), ()))
      else (ck (decide (0 ≤ x5) && decide (x5 ≤ o1) && decide (o1 ≤ (o0.size : Int)))).bind fun _ => some ((o0.extract x5.toNat o1.toNat, ()), ((o0, o1, ()), ()))) (s : Tx) (hs : s.length ≤ 1000000) (i : Nat) :
    ∀ (w post : Tx) (j : Nat), s.drop j = w ++ post → j ≤ s.length → i ≤ j → (∀ c ∈ w, B c = true) → (∀ c r, post = c :: r → B c = false) →
    Runs (fun k => F k (i : Int) (tx s) (j : Int)) ((tx ((s.take (j + w.length)).drop i), ()), ((tx s, ((j + w.length : Nat) : Int), ()), ())) := by
  have hsz : (tx s).size = s.length := tx_size s
  intro w
  induction w with
  | nil =>
    intro post j hd hj hij hw hp
    have fin : Runs (fun _ => (ck (decide (0 ≤ (i : Int)) && decide ((i : Int) ≤ (j : Int)) && decide ((j : Int) ≤ ((tx s).size : Int)))).bind fun _ => some (((tx s).extract (i : Int).toNat (j : Int).toNat, ()), ((tx s, (j : Int), ()), ()))) ((tx ((s.take (j + ([] : Tx).length)).drop i), ()), ((tx s, ((j + ([] : Tx).length : Nat) : Int), ()), ())) := by
      refine Runs.ck (by simp only [Bool.and_eq_true, decide_eq_true_eq]; rw [hsz]; omega) (Runs.some' ?_)
      rw [Int.toNat_natCast, Int.toNat_natCast, tx_extract s i j hij hj]; rfl
    refine Runs.step (fun k => hF k _ _ _) ?_
    cases post with
    | nil =>
      have : s.length ≤ j := by
        have := congrArg List.length hd
        simp at this; omega
      exact Runs.no (by apply decide_eq_false; rw [hsz]; omega) fin
    | cons c r =>
      have hjl : j < s.length := by
        have := congrArg List.length hd
        simp at this; omega
      have hc : s[j] = c := by
        have := List.drop_eq_getElem_cons hjl
        rw [hd] at this; injection this with h1 h2; exact h1.symm
      refine Runs.yes (by apply decide_eq_true; rw [hsz]; omega) (Runs.opt (bto_tx hjl) (Runs.bind (hH _) (Runs.no ?_ fin)))
      rw [hc]; exact hp c r rfl
  | cons c w ih =>
    intro post j hd hj hij hw hp
    have hjl : j < s.length := by
      have := congrArg List.length hd
      simp at this; omega
    have hc : s[j] = c := by
      have := List.drop_eq_getElem_cons hjl
      rw [hd] at this; injection this with h1 h2; exact h1.symm
    have hd' : s.drop (j + 1) = w ++ post := by
      have := List.drop_eq_getElem_cons hjl
      rw [hd] at this; injection this with h1 h2; exact h2.symm
    refine Runs.step (fun k => hF k _ _ _) (Runs.yes (by apply decide_eq_true; rw [hsz]; omega) (Runs.opt (bto_tx hjl) (Runs.bind (hH _) (Runs.yes ?_ ?_))))
    · rw [hc]; exact hw c (List.mem_cons_self ..)
    · rw [show IntKind.wrap .i64 ((j : Int) + 1) = ((j + 1 : Nat) : Int) by rw [wrap_i64 (by omega) (by omega)]; rfl]
      have := ih post (j + 1) hd' (by omega) (by omega) (fun x hx => hw x (List.mem_cons_of_mem _ hx)) hp
      rw [show j + 1 + w.length = j + (c :: w).length by simp; omega] at this
      exact this
theorem run0_ok (s : Tx) (hs : s.length ≤ 1000000) (w post : Tx) (j : Nat) (hd : s.drop j = w ++ post) (hj : j ≤ s.length) (hw : ∀ c ∈ w, noLine c = true) (hp : ∀ c r, post = c :: r → noLine c = false) :
    Runs (fun k => say_lexer_run_v0.f k (tx s) (j : Int)) ((tx ((s.take (j + w.length)).drop j), ()), ((tx s, ((j + w.length : Nat) : Int), ()), ())) :=
  Runs.step (fun k => rfl) (run_gen (F := fun k => say_lexer_run_v0.l0 k) noLine_ok (fun k x5 o0 o1 => rfl) s hs j w post j hd hj (Nat.le_refl _) hw hp)
theorem run1_ok (s : Tx) (hs : s.length ≤ 1000000) (w post : Tx) (j : Nat) (hd : s.drop j = w ++ post) (hj : j ≤ s.length) (hw : ∀ c ∈ w, wordC c = true) (hp : ∀ c r, post = c :: r → wordC c = false) :
    Runs (fun k => say_lexer_run_v1.f k (tx s) (j : Int)) ((tx ((s.take (j + w.length)).drop j), ()), ((tx s, ((j + w.length : Nat) : Int), ()), ())) :=
  Runs.step (fun k => rfl) (run_gen (F := fun k => say_lexer_run_v1.l0 k) wordC_ok (fun k x5 o0 o1 => rfl) s hs j w post j hd hj (Nat.le_refl _) hw hp)
theorem lexrun_ok (s : Tx) (hs : s.length ≤ 1000000) (w post : Tx) (j : Nat) (hd : s.drop j = w ++ post) (hj : j ≤ s.length) (hw : ∀ c ∈ w, digitB c = true) (hp : ∀ c r, post = c :: r → digitB c = false) :
    Runs (fun k => say_lexer_run_v2.f k (tx s) (j : Int)) ((tx ((s.take (j + w.length)).drop j), ()), ((tx s, ((j + w.length : Nat) : Int), ()), ())) :=
  Runs.step (fun k => rfl) (run_gen (F := fun k => say_lexer_run_v2.l0 k) digit_ok (fun k x5 o0 o1 => rfl) s hs j w post j hd hj (Nat.le_refl _) hw hp)
inductive BlE (post : Tx) : Tx → Prop where
  | nil (h : ∀ c r, post = c :: r → c ≠ 32 ∧ c ≠ 10 ∧ c ≠ 9 ∧ c ≠ 35) : BlE post []
  | sp (c : UInt8) (r : Tx) (hc : c = 32 ∨ c = 10 ∨ c = 9) (h : BlE post r) : BlE post (c :: r)
  | rem (b r : Tx) (hb : ∀ c ∈ b, c ≠ 10) (h : BlE post r) (he : ∀ c t, r ++ post = c :: t → c = 10) : BlE post (35 :: b ++ r)
theorem u8_nat (c : UInt8) (n : Nat) (hn : n < 256) : ((c.toNat : Int) == (n : Int)) = decide (c = UInt8.ofNat n) := by
  rw [Bool.eq_iff_iff]
  simp only [beq_iff_eq, decide_eq_true_eq]
  constructor
  · intro h
    have h : c.toNat = n := by omega
    subst h; simp
  · intro h; subst h; simp; omega
theorem blanks_loop (s : Tx) (hs : s.length ≤ 1000000) (post : Tx) {bl : Tx} (hbl : BlE post bl) : ∀ (j : Nat), s.drop j = bl ++ post → j ≤ s.length →
    Runs (fun k => say_lexer_blanks.l0 k (tx s) (j : Int)) ((()), ((tx s, ((j + bl.length : Nat) : Int), ()), ())) := by
  have hsz : (tx s).size = s.length := tx_size s
  induction hbl with
  | nil h =>
    intro j hd hj
    cases post with
    | nil =>
      have : s.length ≤ j := by
        have := congrArg List.length hd
        simp at this; omega
      exact Runs.step (fun k => rfl) (Runs.no (by apply decide_eq_false; rw [hsz]; omega) Runs.some)
    | cons c r =>
      obtain ⟨n1, n2, n3, n4⟩ := h c r rfl
      have hjl : j < s.length := by
        have := congrArg List.length hd
        simp at this; omega
      have hc : s[j] = c := by
        have := List.drop_eq_getElem_cons hjl
        rw [hd] at this; injection this with h1 h2; exact h1.symm
      refine Runs.step (fun k => rfl) (Runs.yes (by apply decide_eq_true; rw [hsz]; omega) (Runs.opt (bto_tx hjl) ?_))
      rw [hc]
      refine Runs.no ((u8_nat c 32 (by decide)).trans (decide_eq_false n1)) (Runs.no ((u8_nat c 10 (by decide)).trans (decide_eq_false n2)) (Runs.no ((u8_nat c 9 (by decide)).trans (decide_eq_false n3)) (Runs.no ((u8_nat c 35 (by decide)).trans (decide_eq_false n4)) Runs.some)))
  | sp c r hc0 h ih =>
    intro j hd hj
    have hjl : j < s.length := by
      have := congrArg List.length hd
      simp at this; omega
    have hc : s[j] = c := by
      have := List.drop_eq_getElem_cons hjl
      rw [hd] at this; injection this with h1 h2; exact h1.symm
    have hd' : s.drop (j + 1) = r ++ post := by
      have := List.drop_eq_getElem_cons hjl
      rw [hd] at this; injection this with h1 h2; exact h2.symm
    have nx := ih (j + 1) hd' (by omega)
    rw [show ((j + 1 : Nat) : Int) = IntKind.wrap .i64 ((j : Int) + 1) by rw [wrap_i64 (by omega) (by omega)]; rfl, show j + 1 + r.length = j + (c :: r).length by simp; omega] at nx
    refine Runs.step (fun k => rfl) (Runs.yes (by apply decide_eq_true; rw [hsz]; omega) (Runs.opt (bto_tx hjl) ?_))
    rw [hc]
    rcases hc0 with rfl | rfl | rfl
    · exact Runs.yes rfl nx
    · exact Runs.no rfl (Runs.yes rfl nx)
    · exact Runs.no rfl (Runs.no rfl (Runs.yes rfl nx))
  | rem b r hb h he ih =>
    intro j hd hj
    have hjl : j < s.length := by
      have := congrArg List.length hd
      simp at this; omega
    have hd0 : s.drop j = 35 :: (b ++ (r ++ post)) := by rw [hd]; simp
    have hc : s[j] = 35 := by
      have := List.drop_eq_getElem_cons hjl
      rw [hd0] at this; injection this with h1 h2; exact h1.symm
    have hlen : j + (b.length + 1) ≤ s.length := by
      have := congrArg List.length hd0
      simp at this; omega
    have hd' : s.drop (j + (b.length + 1)) = r ++ post := by
      rw [← List.drop_drop, hd0]; simp
    have nx := ih (j + (b.length + 1)) hd' hlen
    have rn := run0_ok s hs (35 :: b) (r ++ post) j (by rw [hd0]; rfl) hj (fun c hc => by
      rcases List.mem_cons.1 hc with h | h
      · subst h; rfl
      · unfold noLine; simpa using hb c h) (fun c t h => by rw [he c t h]; rfl)
    refine Runs.step (fun k => rfl) (Runs.yes (by apply decide_eq_true; rw [hsz]; omega) (Runs.opt (bto_tx hjl) ?_))
    rw [hc]
    refine Runs.no rfl (Runs.no rfl (Runs.no rfl (Runs.yes rfl (Runs.bind rn ?_))))
    show Runs (fun k => say_lexer_blanks.l0 k (tx s) ((j + (35 :: b).length : Nat) : Int)) _
    rw [show j + (35 :: b).length = j + (b.length + 1) by simp, show j + (35 :: b ++ r).length = j + (b.length + 1) + r.length by simp; omega]
    exact nx
theorem blanks_ok (s : Tx) (hs : s.length ≤ 1000000) (post bl : Tx) (hbl : BlE post bl) (j : Nat) (hd : s.drop j = bl ++ post) (hj : j ≤ s.length) :
    Runs (fun k => say_lexer_blanks.f k (tx s) (j : Int)) ((()), ((tx s, ((j + bl.length : Nat) : Int), ()), ())) := Runs.step (fun k => rfl) (blanks_loop s hs post hbl j hd hj)
end Go.Proofs.Ytpidgdelfaidoaa.Pure
