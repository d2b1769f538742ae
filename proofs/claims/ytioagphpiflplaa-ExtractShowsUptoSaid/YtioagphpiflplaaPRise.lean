/- Plain laws of chapter 8: places that rise. -/
import Derived.Test.YtioagphpiflplaaP08s
namespace Go.Proofs.Ytioagphpiflplaa.Pure
open Go Go.Proofs.Ytioagphpiflplaa.E Go.Proofs.Ytioagphpiflplaa.Eng
set_option linter.unusedVariables false
set_option linter.unusedSimpArgs false

/-- Strictly rising. -/
def Rising (l : List Int) : Prop := l.Pairwise (· < ·)
theorem riseB_prefix : ∀ (m i : Nat) (l : List Int) (n : Int), i + m = l.length → riseB l n m i = true → (∀ j, i ≤ j → j < l.length → 0 ≤ l.getD j 0 ∧ l.getD j 0 < n ∧ (0 < j → l.getD (j - 1) 0 < l.getD j 0))
  | 0, i, l, n, h, hr, j, hj, hl => by omega
  | m + 1, i, l, n, h, hr, j, hj, hl => by
    rw [riseB] at hr
    split at hr
    · cases hr
    · next hn =>
      by_cases e : j = i
      · subst e
        refine ⟨?_, ?_, fun h0 => ?_⟩
        · exact Int.not_lt.1 fun e => hn (Or.inl e)
        · exact Int.not_le.1 fun e => hn (Or.inr (Or.inl e))
        · exact Int.not_le.1 fun e => hn (Or.inr (Or.inr ⟨h0, e⟩))
      · exact riseB_prefix m (i + 1) l n (by omega) hr j (by omega) hl
theorem rising_pair {l : List Int} {n : Int} (h : risingB l n = true) : Rising l ∧ ∀ x ∈ l, 0 ≤ x ∧ x < n := by
  have hp := riseB_prefix l.length 0 l n (Nat.zero_add _) h
  have step : ∀ i (h1 : i + 1 < l.length), l[i] < l[i + 1] := fun i h1 => by
    have := (hp (i + 1) (Nat.zero_le _) h1).2.2 (by omega)
    rw [getD_at h1, getD_at (by omega : i + 1 - 1 < l.length)] at this
    exact this
  refine ⟨List.pairwise_iff_getElem.2 fun i j hi hj hij => ?_, fun x hx => ?_⟩
  · obtain ⟨d, rfl⟩ : ∃ d, j = i + 1 + d := ⟨j - i - 1, by omega⟩
    clear hij
    induction d with
    | zero => exact step i hj
    | succ d ih => exact Int.lt_trans (ih (by omega)) (step (i + 1 + d) hj)
  · obtain ⟨i, hi, rfl⟩ := List.getElem_of_mem hx
    have := hp i (Nat.zero_le _) hi
    rw [getD_at hi] at this
    exact ⟨this.1, this.2.1⟩
theorem filter_none {pick : List Int} {a b : Int} (h : pickedB pick a b = false) : (pick.filter fun x => decide (a ≤ x) && decide (x < b)) = [] := by
  rw [List.filter_eq_nil_iff]
  intro x hx hc
  have : pickedB pick a b = true := List.any_eq_true.2 ⟨x, hx, hc⟩
  rw [h] at this; cases this
theorem filter_split {pick : List Int} (hr : Rising pick) {a b c : Int} (hab : a ≤ b) (hbc : b ≤ c) : (pick.filter fun x => decide (a ≤ x) && decide (x < c)) = (pick.filter fun x => decide (a ≤ x) && decide (x < b)) ++ (pick.filter fun x => decide (b ≤ x) && decide (x < c)) := by
  induction pick with
  | nil => rfl
  | cons x r ih =>
    have hx := List.pairwise_cons.1 hr
    have ih := ih hx.2
    by_cases h1 : a ≤ x
    · by_cases h2 : x < b
      · rw [List.filter_cons_of_pos (by simp; omega), List.filter_cons_of_pos (by simp; omega), List.filter_cons_of_neg (by simp; omega), ih]; rfl
      · have hnil : (r.filter fun x => decide (a ≤ x) && decide (x < b)) = [] := by
          rw [List.filter_eq_nil_iff]
          intro y hy hc
          have := hx.1 y hy
          simp only [Bool.and_eq_true, decide_eq_true_eq] at hc
          omega
        by_cases h3 : x < c
        · rw [List.filter_cons_of_pos (by simp; omega), List.filter_cons_of_neg (by simp; omega), List.filter_cons_of_pos (by simp; omega), ih, hnil]; rfl
        · rw [List.filter_cons_of_neg (by simp; omega), List.filter_cons_of_neg (by simp; omega), List.filter_cons_of_neg (by simp; omega), ih]
    · rw [List.filter_cons_of_neg (by simp; omega), List.filter_cons_of_neg (by simp; omega), List.filter_cons_of_neg (by simp; omega), ih]
theorem sumsB32 (l : List ByteArray) : (l.all fun x => x.size == 32) = true ↔ S32 l := by
  unfold S32; rw [List.all_eq_true]; simp
end Go.Proofs.Ytioagphpiflplaa.Pure
