/- Plain laws: what was laid is read as it was. -/
import Derived.Test.YtnlanlhhcgdjiaaPLay
namespace Go.Proofs.Ytnlanlhhcgdjiaa.Pure
open Go Go.Proofs.Ytnlanlhhcgdjiaa.E Go.Proofs.Ytnlanlhhcgdjiaa.Eng
set_option linter.unusedVariables false
set_option linter.unusedSimpArgs false

/-- At this place of a text stands this one. -/
def At (s : ByteArray) (a : Nat) (b : ByteArray) : Prop := a + b.size ≤ s.size ∧ s.extract a (a + b.size) = b
theorem At.left {s : ByteArray} {a : Nat} {b c : ByteArray} (h : At s a (b ++ c)) : At s a b := by
  obtain ⟨h1, h2⟩ := h
  rw [ByteArray.size_append] at h1 h2
  refine ⟨by omega, ?_⟩
  have : s.extract a (a + b.size) = (b ++ c).extract 0 b.size := by
    rw [← h2, ByteArray.extract_extract]; congr 1; omega
  rw [this]
  have e : ((b ++ c).extract 0 b.size).data = b.data := by
    rw [ByteArray.data_extract, ByteArray.data_append, ← ByteArray.size_data]; simp
  cases h3 : (b ++ c).extract 0 b.size; rw [h3] at e; cases b; simp only at e; rw [e]
theorem At.right {s : ByteArray} {a : Nat} {b c : ByteArray} (h : At s a (b ++ c)) : At s (a + b.size) c := by
  obtain ⟨h1, h2⟩ := h
  rw [ByteArray.size_append] at h1 h2
  refine ⟨by omega, ?_⟩
  have : s.extract (a + b.size) (a + b.size + c.size) = (b ++ c).extract b.size (b.size + c.size) := by
    rw [← h2, ByteArray.extract_extract]; congr 1 <;> omega
  rw [this]
  have e : ((b ++ c).extract b.size (b.size + c.size)).data = c.data := by
    rw [ByteArray.data_extract, ByteArray.data_append]
    apply Array.toList_inj.1
    rw [Array.toList_extract, Array.toList_append]
    have hb : b.size = b.data.toList.length := by simp [← ByteArray.size_data]
    have hc : c.size = c.data.toList.length := by simp [← ByteArray.size_data]
    rw [hb, hc]
    simp only [List.extract, List.drop_left, Nat.add_sub_cancel_left, List.take_length]
  cases h3 : (b ++ c).extract b.size (b.size + c.size); rw [h3] at e; cases c; simp only at e; rw [e]
theorem At.num {s : ByteArray} {a n : Nat} (hn : n < 72057594037927936) {lim : Int} (hl : (n : Int) ≤ lim) (h : At s a (numB n)) : numV s a 0 lim = ((n : Int), a + (numB n).size, 0) := numV_numB hn hl h.1 h.2
theorem At.raw {s : ByteArray} {a : Nat} {b : ByteArray} (h : At s a b) : rawV s a 0 (b.size : Int) = (b, a + b.size, 0) := by
  have := h.1
  rw [rawV_in rfl (by omega) (by omega), Int.toNat_natCast, h.2]
theorem At.text {s : ByteArray} {a : Nat} {t : ByteArray} (hn : t.size < 72057594037927936) {lim : Int} (hl : (t.size : Int) ≤ lim) (h : At s a (numB t.size ++ t)) : textV s a 0 lim = (t, a + (numB t.size ++ t).size, 0) := by
  unfold textV
  rw [h.left.num hn hl]
  simp only
  rw [h.right.raw, ByteArray.size_append, Nat.add_assoc]

/-- Texts that stand at a place are read. -/
theorem texts_read {s : ByteArray} (hs : s.size ≤ 30000000) (lim : Int) (l : List ByteArray) (hl : l.length ≤ 1048576) (hb : ∀ t ∈ l, (t.size : Int) ≤ lim) : ∀ (m i : Nat), i + m = l.length → ∀ a : Nat, a ≤ s.size → At s a (textsB (l.drop i)) →
    Runs (fun k => octet_Reader_Texts.l0 k lim (l.take i) (l.length : Int) (i : Int) s (a : Int) 0) ((l, ()), ((s, ((a + (textsB (l.drop i)).size : Nat) : Int), 0, ()), ())) := by
  intro m
  induction m with
  | zero =>
    intro i hi a ha hat
    rw [List.drop_of_length_le (by omega), List.take_of_length_le (by omega)]
    exact Runs.step (fun k => rfl) (Runs.no (by apply decide_eq_false; omega) Runs.some)
  | succ m ih =>
    intro i hi a ha hat
    have hlt : i < l.length := by omega
    have hmem := List.getElem_mem hlt
    rw [List.drop_eq_getElem_cons hlt] at hat ⊢
    simp only [textsB] at hat ⊢
    have hleft := hat.left
    have hsz : (l[i]).size ≤ s.size := by have := hleft.1; rw [ByteArray.size_append] at this; omega
    have ht := hleft.text (by omega) (hb _ hmem)
    have hr := reader_text hs ha 0 lim
    rw [ht] at hr
    have := ih (i + 1) (by omega) (a + (numB (l[i]).size ++ l[i]).size) hleft.1 hat.right
    refine Runs.step (fun k => rfl) (Runs.yes (by apply decide_eq_true; omega) (Runs.bind hr (Runs.bind (err_ok _ _ _) (Runs.no (by rfl) (Runs.ck ?_ ?_)))))
    · apply decide_eq_true; simp; omega
    · rw [wrap_i64 (n := (i : Int) + 1) (by omega) (by omega)]
      rw [List.take_succ_eq_append_getElem hlt] at this
      rw [ByteArray.size_append (a := numB (l[i]).size ++ l[i]), ← Nat.add_assoc]
      exact this

theorem longest_loop (l : List ByteArray) (hl : l.length ≤ 1048576) : ∀ (m i : Nat), i + m = l.length → ∀ x : Int, (∀ t ∈ l.take i, (t.size : Int) ≤ x) → ∃ M : Int, (∀ t ∈ l, (t.size : Int) ≤ M) ∧ Runs (fun k => chartularylaw01_longest.l0 k l x (i : Int)) ((M, ()), ()) := by
  intro m
  induction m with
  | zero =>
    intro i hi x hx
    rw [List.take_of_length_le (by omega)] at hx
    exact ⟨x, hx, Runs.step (fun k => rfl) (Runs.no (by apply decide_eq_false; omega) Runs.some)⟩
  | succ m ih =>
    intro i hi x hx
    have hlt : i < l.length := by omega
    have hw : IntKind.wrap .i64 ((i : Int) + 1) = ((i + 1 : Nat) : Int) := wrap_i64 (by omega) (by omega)
    have htk := List.take_succ_eq_append_getElem hlt
    by_cases hc : ((l[i]).size : Int) > x
    · obtain ⟨M, h1, h2⟩ := ih (i + 1) (by omega) ((l[i]).size : Int) (fun t ht => by
        rw [htk] at ht
        rcases List.mem_append.mp ht with h | h
        · have := hx t h; omega
        · simp at h; subst h; exact Int.le_refl _)
      refine ⟨M, h1, Runs.step (fun k => rfl) (Runs.yes (by apply decide_eq_true; omega) (Runs.opt (rdo_at hlt) (Runs.yes (decide_eq_true hc) (Runs.opt (rdo_at hlt) ?_))))⟩
      rw [hw]; exact h2
    · obtain ⟨M, h1, h2⟩ := ih (i + 1) (by omega) x (fun t ht => by
        rw [htk] at ht
        rcases List.mem_append.mp ht with h | h
        · exact hx t h
        · simp at h; subst h; omega)
      refine ⟨M, h1, Runs.step (fun k => rfl) (Runs.yes (by apply decide_eq_true; omega) (Runs.opt (rdo_at hlt) (Runs.no (decide_eq_false hc) ?_)))⟩
      rw [hw]; exact h2
theorem longest_ok (l : List ByteArray) (hl : l.length ≤ 1048576) : ∃ M : Int, (∀ t ∈ l, (t.size : Int) ≤ M) ∧ Runs (fun k => chartularylaw01_longest.f k l) ((M, ()), ()) := by
  obtain ⟨M, h1, h2⟩ := longest_loop l hl _ 0 (Nat.zero_add _) 0 (by simp)
  exact ⟨M, h1, Runs.step (fun k => rfl) h2⟩
end Go.Proofs.Ytnlanlhhcgdjiaa.Pure
