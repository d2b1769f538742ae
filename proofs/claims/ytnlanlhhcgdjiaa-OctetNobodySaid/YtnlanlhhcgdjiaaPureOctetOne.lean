/- OctetOne: no bytes but a number's, or a text's, own are read as that number, or that text. No condition. -/
import Derived.Test.YtnlanlhhcgdjiaaPL01OctetOne
import Derived.Test.YtnlanlhhcgdjiaaQOctet
namespace Go.Proofs.Ytnlanlhhcgdjiaa.Pure
open Go.RowKit Go.Proofs.Ytnlanlhhcgdjiaa.PAll Go.Proofs.YtnlanlhhcgdjiaaW.PrintWords Go.Proofs.YtnlanlhhcgdjiaaW.PrintLast Go.Proofs.Ytnlanlhhcgdjiaa.Q
set_option linter.unusedVariables false
set_option linter.unusedSimpArgs false

theorem one_awake (k : Nat) (hk : 12 ≤ k) : chartularylaw01_awake.f k = some true := by
  unfold chartularylaw01_awake.f
  rw [octet_num k hk, octet_num k hk, octet_text k hk _ (by decide)]
  simp only [Option.bind_some, toList_eq]
  rw [if_pos (by simp [numI, numL, L_B, digs_zero])]
  rw [if_pos (by simp [numI, numL, L_B, digs_pos (n := 258) (by omega), digs_pos (n := 1) (by omega), digs_zero])]
  simp [numI, L_append, numL, L_B, digs_pos (n := 2) (by omega), digs_zero, ByteArray.size]
  rfl

theorem one_j0 (k : Nat) (hk : 12 ≤ k) (s : ByteArray) (hs : s.size ≤ 1000) (text : Bool) : chartularylaw01_OctetOne.j0 (k + 1) s text = some true := by
  rw [chartularylaw01_OctetOne.j0]
  unfold octet_Read.f
  simp only [bind_some']
  cases text with
  | true =>
    rw [if_pos rfl]
    obtain ⟨p1, h1, r1⟩ := text_ok (by omega) (Rdr.start s) k hk 1000
    rw [h1]
    simp only [bind_some']
    rw [end_ok (by omega) r1]
    simp only [bind_some']
    by_cases he : endS (textS (L s) 0 1000).2.1 (textS (L s) 0 1000).2.2 = 0
    · rw [if_pos he]
      have e0 : (textS (L s) 0 1000).2.2 = 0 := by unfold endS at he; split at he <;> simp_all
      have hr : (textS (L s) 0 1000).2.1 = [] := by unfold endS at he; rw [if_pos e0] at he; split at he <;> simp_all
      obtain ⟨hb, hle⟩ := textS_back (L s) 1000 (by decide) e0
      rw [hr, List.append_nil] at hb
      rw [octet_text k hk _ (by rw [size_B]; omega)]
      simp only [bind_some', toList_eq]
      rw [if_pos (by rw [L_append, size_B, L_B]; exact hb.symm), one_awake k hk]
      rfl
    · rw [if_neg he, one_awake k hk]; rfl
  | false =>
    rw [if_neg (by decide)]
    obtain ⟨p1, h1, r1⟩ := num_ok (by omega) (Rdr.start s) k hk 72057594037927935
    rw [h1]
    simp only [bind_some']
    rw [end_ok (by omega) r1]
    simp only [bind_some']
    by_cases he : endS (numS (L s) 0 72057594037927935).2.1 (numS (L s) 0 72057594037927935).2.2 = 0
    · rw [if_pos he]
      have e0 : (numS (L s) 0 72057594037927935).2.2 = 0 := by unfold endS at he; split at he <;> simp_all
      have hr : (numS (L s) 0 72057594037927935).2.1 = [] := by unfold endS at he; rw [if_pos e0] at he; split at he <;> simp_all
      obtain ⟨n, hn, hle, hb, hi⟩ := numS_back (L s) 72057594037927935 (by decide) e0
      rw [hr, List.append_nil] at hb
      rw [octet_num k hk, hn, hi]
      simp only [bind_some', toList_eq]
      rw [if_pos (by rw [L_B]; exact hb.symm), one_awake k hk]
      rfl
    · rw [if_neg he, one_awake k hk]; rfl

/-- OctetOne, in plain numbers and lists. -/
theorem OctetOne : chartularylaw01_OctetOne.Pure := by
  intro s text hs
  refine ⟨13, ?_⟩
  unfold chartularylaw01_OctetOne.f
  by_cases h : (s.size : Int) > 1000
  · rw [if_pos h, if_pos (by decide), if_pos (by omega)]
    exact one_j0 12 (by decide) _ (by rw [ByteArray.size_extract]; omega) text
  · rw [if_neg h]
    exact one_j0 12 (by decide) s (by omega) text

end Go.Proofs.Ytnlanlhhcgdjiaa.Pure
