/- Layer octet in plain lists: readers of lists of texts. -/
import Derived.Test.YtfegehfdbcnepaaPOctet
import Derived.Test.YtfegehfdbcnepaaQTexts
import Derived.Test.YtfegehfdbcnepaaQTextBack
namespace Go.Proofs.Ytfegehfdbcnepaa.Q
open Go.RowKit Go.Proofs.Ytfegehfdbcnepaa.PAll Go.Proofs.YtfegehfdbcnepaaW.PrintWords Go.Proofs.YtfegehfdbcnepaaW.PrintLast
set_option linter.unusedVariables false
set_option linter.unusedSimpArgs false

/-! ## Readers of lists of texts -/
def textsL (most : Int) : Nat → List UInt8 → List ByteArray → List ByteArray × List UInt8 × Int
  | 0, rest, acc => (acc, rest, 0)
  | m + 1, rest, acc => if (textS rest 0 most).2.2 = 0 then textsL most m (textS rest 0 most).2.1 (acc ++ [B (textS rest 0 most).1]) else ([], (textS rest 0 most).2.1, (textS rest 0 most).2.2)
def textsS (rest : List UInt8) (e many most : Int) : List ByteArray × List UInt8 × Int :=
  if (numS rest e many).2.2 = 0 then textsL most (numS rest e many).1.toNat (numS rest e many).2.1 [] else ([], (numS rest e many).2.1, (numS rest e many).2.2)
theorem numS_pos (rest : List UInt8) (e most : Int) : 0 ≤ (numS rest e most).1 := by
  unfold numS
  split
  · cases rest with
    | nil => simp
    | cons c t =>
      simp only []
      repeat' split
      all_goals simp
  · simp
theorem rtexts_loop {s : ByteArray} (hs : s.size ≤ 4611686018427387904) (most : Int) (n : Nat) (hn : n ≤ 8796093022200) : ∀ (m k i : Nat) (acc : List ByteArray) (pos : Int) (rest : List UInt8), n - i = m → m + 13 < k → i ≤ n → acc.length = i → Rdr s pos 0 rest →
    ∃ pos', octet_Reader_Texts.l0 k most acc (n : Int) (i : Int) s pos 0 = some ((textsL most m rest acc).1, s, pos', (textsL most m rest acc).2.2) ∧ Rdr s pos' (textsL most m rest acc).2.2 (textsL most m rest acc).2.1 := by
  intro m
  induction m with
  | zero =>
    intro k i acc pos rest hm hk hi ha hr
    obtain ⟨k, rfl⟩ : ∃ q, k = q + 1 := ⟨k - 1, by omega⟩
    rw [octet_Reader_Texts.l0, if_neg (by omega)]
    exact ⟨pos, rfl, hr⟩
  | succ m ih =>
    intro k i acc pos rest hm hk hi ha hr
    obtain ⟨k, rfl⟩ : ∃ q, k = q + 1 := ⟨k - 1, by omega⟩
    rw [octet_Reader_Texts.l0, if_pos (by omega)]
    obtain ⟨p1, h1, r1⟩ := text_ok hs hr k (by omega) most
    rw [h1]
    unfold octet_Reader_Err.f
    simp only [bind_some', textsL]
    by_cases he : (textS rest 0 most).2.2 = 0
    · rw [if_pos he, if_pos (by omega), wrap64_id (by omega) (by omega), show ((i : Int) + 1) = ((i + 1 : Nat) : Int) from by omega]
      rw [he] at r1 ⊢
      simp only [if_true]
      exact ih k (i + 1) _ p1 _ (by omega) (by omega) (by omega) (by rw [List.length_append, ha]; rfl) r1
    · rw [if_neg he]
      simp only [if_neg he]
      exact ⟨p1, rfl, r1⟩
theorem texts_ok {s : ByteArray} {pos e : Int} {rest : List UInt8} (hs : s.size ≤ 4611686018427387904) (h : Rdr s pos e rest) (k : Nat) (many most : Int) (hm : many ≤ 8796093022200) (hk : (numS rest e many).1.toNat + 14 < k) :
    ∃ pos', octet_Reader_Texts.f k s pos e many most = some ((textsS rest e many most).1, s, pos', (textsS rest e many most).2.2) ∧ Rdr s pos' (textsS rest e many most).2.2 (textsS rest e many most).2.1 := by
  unfold octet_Reader_Texts.f
  obtain ⟨p1, h1, r1⟩ := num_ok hs h k (by omega) many
  rw [h1]
  simp only [bind_some']
  unfold textsS
  have hp := numS_pos rest e many
  by_cases he : (numS rest e many).2.2 = 0
  · rw [he] at r1
    simp only [if_pos he]
    have e0 : e = 0 := by
      rcases Decidable.em (e = 0) with q | q
      · exact q
      · rw [numS_err rest e many q] at he; exact absurd he q
    subst e0
    have hle : (numS rest 0 many).1 ≤ 8796093022200 := by
      rcases Int.lt_or_le many 72057594037927936 with q | q
      · obtain ⟨n, h2, h3, _⟩ := numS_back rest many q he
        omega
      · omega
    obtain ⟨n, hn⟩ := Int.eq_ofNat_of_zero_le hp
    have h5 : (n : Int) ≤ 8796093022200 := by rw [← hn]; exact hle
    have h6 : n + 14 < k := by rw [hn] at hk; simpa using hk
    rw [he, hn]
    obtain ⟨p2, h2, r2⟩ := rtexts_loop hs most n (by omega) n k 0 [] p1 _ (by omega) (by omega) (by omega) rfl r1
    rw [Int.toNat_natCast]
    exact ⟨p2, h2, r2⟩
  · simp only [if_neg he]
    obtain ⟨k, rfl⟩ : ∃ q, k = q + 1 := ⟨k - 1, by omega⟩
    have h0 : (numS rest e many).1 = 0 := by
      unfold numS at he ⊢
      split
      · rename_i q
        rw [if_pos q] at he
        cases rest with
        | nil => rfl
        | cons c t =>
          simp only [] at he ⊢
          repeat' split
          all_goals first | rfl | (exfalso; apply he; simp_all)
      · rfl
    rw [h0, octet_Reader_Texts.l0, if_neg (by omega)]
    exact ⟨p1, rfl, r1⟩

theorem textsL_texts (most : Int) : ∀ (l : List ByteArray) (rest : List UInt8) (acc : List ByteArray), (∀ a ∈ l, (a.size : Int) ≤ most ∧ a.size < 72057594037927936) →
    textsL most l.length (L (textsB l) ++ rest) acc = (acc ++ l, rest, 0) := by
  intro l
  induction l with
  | nil => intro rest acc _; simp [textsL, textsB, L_B]
  | cons a l ih =>
    intro rest acc h
    have ha := h a (List.mem_cons_self ..)
    simp only [List.length_cons, textsL, textsB, L_append, List.append_assoc]
    rw [textS_text a _ most ha.1 ha.2]
    simp only [if_true]
    rw [ih _ _ (fun b hb => h b (List.mem_cons_of_mem _ hb)), B_L]
    simp
/-- What was laid as texts is read so. -/
theorem textsS_texts (l : List ByteArray) (rest : List UInt8) (many most : Int) (hm : (l.length : Int) ≤ many) (h : l.length < 72057594037927936) (hl : ∀ a ∈ l, (a.size : Int) ≤ most ∧ a.size < 72057594037927936) :
    textsS (L (numI l.length ++ textsB l) ++ rest) 0 many most = (l, rest, 0) := by
  unfold textsS
  rw [L_append, (numI_some (n := (l.length : Int)) (by omega) (by omega)).1, L_B, Int.toNat_natCast, List.append_assoc, numS_num _ h _ _ hm]
  simp only [if_true, Int.toNat_natCast]
  exact textsL_texts most l rest [] hl
theorem textsL_back (most : Int) (hm : most < 72057594037927936) : ∀ (m : Nat) (rest : List UInt8) (acc : List ByteArray), (textsL most m rest acc).2.2 = 0 →
    ∃ l : List ByteArray, (textsL most m rest acc).1 = acc ++ l ∧ l.length = m ∧ (∀ a ∈ l, (a.size : Int) ≤ most) ∧ rest = L (textsB l) ++ (textsL most m rest acc).2.1 := by
  intro m
  induction m with
  | zero => intro rest acc _; exact ⟨[], by simp [textsL], rfl, (fun a h => by cases h), by simp [textsL, textsB, L_B]⟩
  | succ m ih =>
    intro rest acc h
    simp only [textsL] at h ⊢
    by_cases he : (textS rest 0 most).2.2 = 0
    · rw [if_pos he] at h ⊢
      obtain ⟨hb, hle⟩ := textS_back rest most hm he
      obtain ⟨l, h1, h2, h3, h4⟩ := ih _ _ h
      refine ⟨B (textS rest 0 most).1 :: l, by rw [h1]; simp, by simp [h2], ?_, ?_⟩
      · intro a ha
        rcases List.mem_cons.1 ha with rfl | ha
        · rw [size_B]; exact hle
        · exact h3 a ha
      · simp only [textsB, L_append, textB, size_B, L_B, List.append_assoc]
        rw [← h4, ← List.append_assoc]
        exact hb
    · rw [if_neg he] at h; exact absurd h he
/-- What was read as texts without a fault is their bytes, and what is left. -/
theorem textsS_back (rest : List UInt8) (many most : Int) (hmany : many < 72057594037927936) (hm : most < 72057594037927936) (h : (textsS rest 0 many most).2.2 = 0) :
    ((textsS rest 0 many most).1.length : Int) ≤ many ∧ (∀ a ∈ (textsS rest 0 many most).1, (a.size : Int) ≤ most) ∧
      rest = L (numI (textsS rest 0 many most).1.length ++ textsB (textsS rest 0 many most).1) ++ (textsS rest 0 many most).2.1 := by
  unfold textsS at h ⊢
  by_cases he : (numS rest 0 many).2.2 = 0
  · rw [if_pos he] at h ⊢
    obtain ⟨n, h1, h2, h3, h4⟩ := numS_back rest many hmany he
    obtain ⟨l, g1, g2, g3, g4⟩ := textsL_back most hm _ _ _ h
    rw [g1, List.nil_append]
    rw [h1, Int.toNat_natCast] at g2
    refine ⟨by omega, g3, ?_⟩
    rw [g2, h4, L_append, L_B, List.append_assoc, ← g4]
    exact h3
  · rw [if_neg he] at h; exact absurd h he
theorem textsS_err (rest : List UInt8) (e many most : Int) (he : e ≠ 0) : textsS rest e many most = ([], rest, e) := by
  unfold textsS
  rw [numS_err rest e many he, if_neg he]
end Go.Proofs.Ytfegehfdbcnepaa.Q
