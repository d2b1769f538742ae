/- Words of signs in plain lists: IDs and names. -/
import Derived.Test.YtfegehfdbcnepaaQBase
import Derived.Test.YtfegehfdbcnepaaPPaper
namespace Go.Proofs.Ytfegehfdbcnepaa.Q
open Go.RowKit Go.Proofs.Ytfegehfdbcnepaa.PAll Go.Proofs.YtfegehfdbcnepaaW.PrintWords Go.Proofs.YtfegehfdbcnepaaW.PrintLast
set_option linter.unusedVariables false
set_option linter.unusedSimpArgs false
def signB (n : Int) : Bool := (paper_sign.f n).getD false
theorem sign_ok (n : Int) : paper_sign.f n = some (signB n) := by
  unfold signB
  have : ∃ b, paper_sign.f n = some b := by
    unfold paper_sign.f
    repeat' split
    all_goals exact ⟨_, rfl⟩
  obtain ⟨b, hb⟩ := this
  rw [hb]; rfl
/-- Is a text of 1 to so many signs? -/
def wordB (a : ByteArray) (most : Int) : Bool := if L a = [] then false else if (a.size : Int) > most then false else (L a).all (fun c => signB (c.toNat : Int))
theorem wordB_size {a : ByteArray} {most : Int} (h : wordB a most = true) : (a.size : Int) ≤ most ∧ 0 < a.size := by
  unfold wordB at h
  split at h
  · simp at h
  · rename_i hn
    split at h
    · simp at h
    · refine ⟨by omega, ?_⟩
      rw [size_L]
      exact List.length_pos_iff.2 hn
theorem bt_L (a : ByteArray) (i : Nat) (h : i < (L a).length) : bt a (i : Int) = (((L a)[i]).toNat : Int) := by
  have h2 : i < a.size := by rw [size_L]; exact h
  unfold bt
  rw [dif_pos (by simpa using h2)]
  rfl
theorem word_loop (a : ByteArray) (ha : a.size ≤ 1152921504606846976) : ∀ (m k i : Nat), (L a).length - i = m → m < k → i ≤ (L a).length →
    paper_word.l0 k a (a.size : Int) (i : Int) = some (((L a).drop i).all (fun c => signB (c.toNat : Int))) := by
  have hsz := size_L a
  intro m
  induction m with
  | zero =>
    intro k i hm hk hi
    obtain ⟨k, rfl⟩ : ∃ q, k = q + 1 := ⟨k - 1, by omega⟩
    rw [paper_word.l0, if_neg (by omega), List.drop_of_length_le (by omega)]
    rfl
  | succ m ih =>
    intro k i hm hk hi
    obtain ⟨k, rfl⟩ : ∃ q, k = q + 1 := ⟨k - 1, by omega⟩
    have hlt : i < (L a).length := by omega
    rw [paper_word.l0, if_pos (by omega), if_pos (by omega), if_pos (by omega), bt_L a i hlt, sign_ok, List.drop_eq_getElem_cons hlt]
    show (if signB (((L a)[i]).toNat : Int) = true then _ else _) = _
    by_cases h : signB (((L a)[i]).toNat : Int) = true
    · rw [if_pos h, show wrap64 ((i : Int) + 1) = ((i + 1 : Nat) : Int) from by unfold wrap64; omega, ih k (i + 1) (by omega) (by omega) (by omega), List.all_cons, h, Bool.true_and]
    · rw [if_neg h, List.all_cons, Bool.eq_false_iff.2 h, Bool.false_and]
theorem word_ok (k : Nat) (a : ByteArray) (most : Int) (hk : a.size + 3 ≤ k) (ha : a.size ≤ 1152921504606846976) : paper_word.f k a most = some (wordB a most) := by
  obtain ⟨k, rfl⟩ : ∃ q, k = q + 1 := ⟨k - 1, by omega⟩
  have hsz := size_L a
  unfold paper_word.f wordB
  rw [toList_eq]
  by_cases h : L a = []
  · rw [if_pos h, if_pos h, paper_word.j0, if_pos rfl]
  · rw [if_neg h, if_neg h, paper_word.j0]
    by_cases h2 : (a.size : Int) > most
    · rw [decide_eq_true h2, if_pos rfl, if_pos h2]
    · rw [decide_eq_false h2, if_neg (by decide), if_neg h2]
      exact word_loop a ha _ k 0 rfl (by omega) (by omega)
theorem isID_ok (k : Nat) (a : ByteArray) (hk : a.size + 3 ≤ k) (ha : a.size ≤ 1152921504606846976) : paper_IsID.f k a = some (wordB a 24) := by
  unfold paper_IsID.f; rw [word_ok k a 24 hk ha]; rfl
theorem isName_ok (k : Nat) (a : ByteArray) (hk : a.size + 3 ≤ k) (ha : a.size ≤ 1152921504606846976) : paper_IsName.f k a = some (wordB a 16) := by
  unfold paper_IsName.f; rw [word_ok k a 16 hk ha]; rfl
/-- An arm that says no, and the rest. -/
theorem arm_no {c : Prop} [Decidable c] {x y : Option Bool} {b : Bool} (hx : x = some false) (hy : ¬ c → y = some b) : (if c then x else y) = some (decide (¬ c) && b) := by
  by_cases h : c
  · rw [if_pos h, hx, decide_eq_false (by simpa using h)]; rfl
  · rw [if_neg h, hy h, decide_eq_true h]; rfl
/-- A test that says go on, or no. -/
theorem arm_yes {c : Prop} [Decidable c] {x y : Option Bool} {b : Bool} (hy : y = some false) (hx : c → x = some b) : (if c then x else y) = some (decide c && b) := by
  by_cases h : c
  · rw [if_pos h, hx h, decide_eq_true h]; rfl
  · rw [if_neg h, hy, decide_eq_false h]; rfl
theorem arm_bool {t : Bool} {x y : Option Bool} {b : Bool} (hy : y = some false) (hx : t = true → x = some b) : (if t = true then x else y) = some (t && b) := by
  cases t
  · rw [if_neg (by decide), hy]; rfl
  · rw [if_pos rfl, hx rfl]; rfl
end Go.Proofs.Ytfegehfdbcnepaa.Q
