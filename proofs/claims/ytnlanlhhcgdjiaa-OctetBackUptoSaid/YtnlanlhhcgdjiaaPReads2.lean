/- Plain laws: texts, truths, the end; one step; the law OctetReads. -/
import Derived.Test.YtnlanlhhcgdjiaaPReads
import Derived.Test.YtnlanlhhcgdjiaaESOctetReads
namespace Go.Proofs.Ytnlanlhhcgdjiaa.Pure
open Go Go.Proofs.Ytnlanlhhcgdjiaa.E Go.Proofs.Ytnlanlhhcgdjiaa.Eng
set_option linter.unusedVariables false
set_option linter.unusedSimpArgs false

theorem rawV_ge {s : ByteArray} {a : Nat} {e n : Int} : a ≤ (rawV s a e n).2.1 := by
  by_cases he : e ≠ 0
  · rw [rawV_err he]; exact Nat.le_refl _
  · have he : e = 0 := by simpa using he
    by_cases h1 : n < 0
    · rw [rawV_neg he h1]; exact Nat.le_refl _
    · by_cases h2 : n > (s.size : Int) - a
      · rw [rawV_out he h1 h2]; exact Nat.le_refl _
      · rw [rawV_in he h1 h2]; show a ≤ a + n.toNat; omega
theorem rawV_err0 {s : ByteArray} {a : Nat} {e n : Int} (h : (rawV s a e n).2.2 = 0) : e = 0 := by
  by_cases he : e ≠ 0
  · rw [rawV_err he] at h; exact h
  · simpa using he
theorem numV_le {s : ByteArray} {a : Nat} (h : a ≤ s.size) (e lim : Int) : (numV s a e lim).2.1 ≤ s.size := by
  have h1 := rawV_le h e 1
  unfold numV
  split
  · exact h1
  · split
    · exact h1
    · have h2 := rawV_le h1 0 (Int.ofNat (UInt8.toNat (by assumption)))
      split
      · exact rawV_le h1 _ _
      · split
        · exact rawV_le h1 _ _
        · exact rawV_le h1 _ _
theorem numV_gt {s : ByteArray} {a : Nat} {e lim : Int} (h : (numV s a e lim).2.2 = 0) : a + 1 ≤ (numV s a e lim).2.1 ∧ e = 0 := by
  by_cases he : e ≠ 0
  · exfalso
    have hr : (rawV s a e 1).1.data.toList = [] := by rw [rawV_err he]
    have : numV s a e lim = (0, (rawV s a e 1).2.1, (rawV s a e 1).2.2) := by unfold numV; rw [hr]
    rw [this, rawV_err he] at h; exact he h
  · have he : e = 0 := by simpa using he
    refine ⟨?_, he⟩
    by_cases h2 : (1 : Int) > (s.size : Int) - a
    · exfalso
      have hr : (rawV s a e 1).1.data.toList = [] := by rw [rawV_out he (by decide) h2]
      have : numV s a e lim = (0, (rawV s a e 1).2.1, (rawV s a e 1).2.2) := by unfold numV; rw [hr]
      rw [this, rawV_out he (by decide) h2] at h; cases h
    · have h3 : (rawV s a e 1).2.1 = a + 1 := by rw [rawV_in he (by decide) h2]; rfl
      unfold numV
      split
      · rw [h3]; exact Nat.le_refl _
      · split
        · rw [h3]; exact Nat.le_refl _
        · have g : ∀ n, a + 1 ≤ (rawV s (rawV s a e 1).2.1 0 n).2.1 := fun n => by have := @rawV_ge s (rawV s a e 1).2.1 0 n; omega
          split
          · exact g _
          · split
            · exact g _
            · exact g _
def textV (s : ByteArray) (a : Nat) (e lim : Int) : ByteArray × Nat × Int := rawV s (numV s a e lim).2.1 (numV s a e lim).2.2 (numV s a e lim).1
theorem reader_text {s : ByteArray} (hs : s.size ≤ 30000000) {a : Nat} (h : a ≤ s.size) (e lim : Int) :
    Runs (fun k => octet_Reader_Text.f k lim s (a : Int) e) (((textV s a e lim).1, ()), ((s, ((textV s a e lim).2.1 : Int), (textV s a e lim).2.2, ()), ())) :=
  Runs.step (fun k => rfl) (Runs.bind (reader_num hs h e lim) (Runs.bind (reader_raw hs (numV_le h e lim) _ _) Runs.some))
theorem textV_le {s : ByteArray} {a : Nat} (h : a ≤ s.size) (e lim : Int) : (textV s a e lim).2.1 ≤ s.size := rawV_le (numV_le h e lim) _ _
theorem textV_gt {s : ByteArray} {a : Nat} {e lim : Int} (h : (textV s a e lim).2.2 = 0) : a + 1 ≤ (textV s a e lim).2.1 := by
  have h1 := numV_gt (rawV_err0 h)
  have := @rawV_ge s (numV s a e lim).2.1 (numV s a e lim).2.2 (numV s a e lim).1
  unfold textV; omega

/-- Both read texts alike. -/
theorem texts_loop {s : ByteArray} (hs : s.size ≤ 30000000) (lim n : Int) : ∀ (m a : Nat), s.size - a = m → a ≤ s.size → ∀ acc : List ByteArray, acc.length ≤ a → ∃ (l : List ByteArray) (a' : Nat) (e' : Int), (a' ≤ s.size ∧ l.length ≤ 30000000) ∧
    Runs (fun k => octet_Reader_Texts.l0 k lim acc n (acc.length : Int) s (a : Int) 0) ((l, ()), ((s, (a' : Int), e', ()), ())) ∧
    Runs (fun k => chartularylaw01_plain_texts.l0 k lim n acc (acc.length : Int) (rest s a) 0) ((l, ()), ((rest s a', e', ()), ())) := by
  intro m
  induction m using Nat.strongRecOn with
  | ind m ih =>
    intro a hm ha acc hacc
    by_cases hn : (acc.length : Int) < n
    · by_cases he : (textV s a 0 lim).2.2 = 0
      · have hgt := textV_gt he
        have hle := textV_le ha 0 lim
        obtain ⟨l, a', e', h1, h2, h3⟩ := ih (s.size - (textV s a 0 lim).2.1) (by omega) _ rfl hle (acc ++ [(textV s a 0 lim).1]) (by simp; omega)
        have hw : IntKind.wrap .i64 ((acc.length : Int) + 1) = ((acc ++ [(textV s a 0 lim).1]).length : Int) := by rw [wrap_i64 (by omega) (by omega)]; simp
        have hck : decide ((acc.length + ([(textV s a 0 lim).1] : List ByteArray).length) * 16 ≤ 70368744177664) = true := by simp; omega
        refine ⟨l, a', e', h1, ?_, ?_⟩
        · refine Runs.step (fun k => rfl) (Runs.yes (by simpa using hn) (Runs.bind (reader_text hs ha 0 lim) (Runs.bind (err_ok _ _ _) (Runs.no (by rw [he]; rfl) (Runs.ck hck ?_)))))
          rw [hw, he]; exact h2
        · refine Runs.step (fun k => rfl) (Runs.yes (by simpa using hn) (Runs.bind (plain_num hs ha 0 lim) (Runs.bind (plain_raw hs (numV_le ha 0 lim) _ _) (Runs.ck hck ?_))))
          rw [hw]
          show Runs (fun k => chartularylaw01_plain_texts.l0 k lim n (acc ++ [(textV s a 0 lim).1]) _ (rest s (textV s a 0 lim).2.1) (textV s a 0 lim).2.2) _
          rw [he]; exact h3
      · refine ⟨[], (textV s a 0 lim).2.1, (textV s a 0 lim).2.2, ⟨textV_le ha 0 lim, by simp⟩, ?_, ?_⟩
        · exact Runs.step (fun k => rfl) (Runs.yes (by simpa using hn) (Runs.bind (reader_text hs ha 0 lim) (Runs.bind (err_ok _ _ _) (Runs.yes (by simpa using he) Runs.some))))
        · have hck : decide ((acc.length + ([(textV s a 0 lim).1] : List ByteArray).length) * 16 ≤ 70368744177664) = true := by simp; omega
          refine Runs.step (fun k => rfl) (Runs.yes (by simpa using hn) (Runs.bind (plain_num hs ha 0 lim) (Runs.bind (plain_raw hs (numV_le ha 0 lim) _ _) (Runs.ck hck ?_))))
          show Runs (fun k => chartularylaw01_plain_texts.l0 k lim n (acc ++ [(textV s a 0 lim).1]) _ (rest s (textV s a 0 lim).2.1) (textV s a 0 lim).2.2) _
          refine Runs.step (fun k => rfl) (Runs.cond (fun _ => Runs.no (by simpa using he) (Runs.yes (by simpa using he) Runs.some)) (fun _ => Runs.yes (by simpa using he) Runs.some))
    · refine ⟨acc, a, 0, ⟨ha, by omega⟩, ?_, ?_⟩
      · exact Runs.step (fun k => rfl) (Runs.no (by simpa using hn) Runs.some)
      · exact Runs.step (fun k => rfl) (Runs.no (by simpa using hn) Runs.some)
theorem texts_ok {s : ByteArray} (hs : s.size ≤ 30000000) {a : Nat} (ha : a ≤ s.size) (e n lim : Int) : ∃ (l : List ByteArray) (a' : Nat) (e' : Int), (a' ≤ s.size ∧ l.length ≤ 30000000) ∧
    Runs (fun k => octet_Reader_Texts.f k n lim s (a : Int) e) ((l, ()), ((s, (a' : Int), e', ()), ())) ∧
    Runs (fun k => chartularylaw01_plain_texts.f k n lim (rest s a) e) ((l, ()), ((rest s a', e', ()), ())) := by
  have hle := numV_le ha e n
  by_cases he : (numV s a e n).2.2 = 0
  · obtain ⟨l, a', e', h1, h2, h3⟩ := texts_loop hs lim (numV s a e n).1 _ _ rfl hle [] (by simp)
    refine ⟨l, a', e', h1, Runs.step (fun k => rfl) (Runs.bind (reader_num hs ha e n) ?_), Runs.step (fun k => rfl) (Runs.bind (plain_num hs ha e n) ?_)⟩
    · rw [he]; exact h2
    · rw [he]; exact h3
  · have h0 : (numV s a e n).1 = 0 := by
      unfold numV at he ⊢
      split
      · rfl
      · rename_i t r hr
        rw [hr] at he
        simp only at he
        split
        · rfl
        · rename_i h7
          rw [if_neg h7] at he
          split
          · rfl
          · rename_i hb
            rw [if_neg hb] at he
            split
            · rfl
            · rename_i hh
              rw [if_neg hh] at he
              simp only at he ⊢
              unfold finV at he ⊢
              split
              · rfl
              · rename_i hl; rw [if_neg hl] at he; exact absurd rfl he
    refine ⟨[], (numV s a e n).2.1, (numV s a e n).2.2, ⟨hle, by simp⟩, Runs.step (fun k => rfl) (Runs.bind (reader_num hs ha e n) ?_), Runs.step (fun k => rfl) (Runs.bind (plain_num hs ha e n) ?_)⟩
    · rw [h0]; exact Runs.step (fun k => rfl) (Runs.no (by rfl) Runs.some)
    · rw [h0]; exact Runs.step (fun k => rfl) (Runs.no (by rfl) (Runs.yes (by simpa using he) Runs.some))
end Go.Proofs.Ytnlanlhhcgdjiaa.Pure
