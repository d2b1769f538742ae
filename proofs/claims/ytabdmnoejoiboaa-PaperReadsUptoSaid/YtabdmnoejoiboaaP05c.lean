/- Plain laws of chapter 5: why a paper may not be. -/
import Derived.Test.YtabdmnoejoiboaaP05b
namespace Go.Proofs.Ytabdmnoejoiboaa.Pure
open Go Go.Proofs.Ytabdmnoejoiboaa.E Go.Proofs.Ytabdmnoejoiboaa.Eng
set_option linter.unusedVariables false
set_option linter.unusedSimpArgs false

open Classical in
noncomputable def ndV (l : List Elm) : Int := if ND l then 0 else 10
theorem ndV_yes {l : List Elm} (h : ND l) : ndV l = 0 := by unfold ndV; rw [if_pos h]
theorem ndV_no {l : List Elm} (h : ¬ ND l) : ndV l = 10 := by unfold ndV; rw [if_neg h]
noncomputable def fchkV (rest : Int) : List Elm → Int
  | [] => rest
  | f :: r => bif !wordB f.1 16 then 14 else bif !rightV (cleanV f.2.1) then 15 else fchkV rest r
noncomputable def checkV (p : Pap) : Int :=
  bif !wordB p.1 24 then 13 else bif decide (p.2.1 < 0) then 16 else bif decide (p.2.1 ≥ 8) then 16 else bif decide ((p.2.2.1.length : Int) < 1) then 5 else bif decide ((p.2.2.1.length : Int) > 12) then 5 else fchkV (ndV p.2.2.1) p.2.2.1
theorem wnat {i : Nat} (h : i ≤ 100000) : IntKind.wrap .i64 ((i : Int) + 1) = ((i + 1 : Nat) : Int) := by rw [wrap_i64 (by omega) (by omega)]; rfl
theorem chk_l1 (S : List Elm) (hl : S.length ≤ 1000) : ∀ (m i : Nat), 1 ≤ i → S.length ≤ i + m → i ≤ 1001 → TP (fun k => paper_Check.l1 k S (i : Int)) (fun v => (v.1.1 = 0 ∧ ∀ j, i ≤ j → ∀ (h : j < S.length), S[j].1 ≠ (S[j - 1]'(by omega)).1) ∨ (v.1.1 = 10 ∧ ∃ j, 1 ≤ j ∧ ∃ h : j < S.length, S[j].1 = (S[j - 1]'(by omega)).1))
  | m, i, h1, h2, h3 => by
    refine TP.step (fun k => rfl) (TP.dec (fun h => ?_) fun h => TP.some (.inl ⟨rfl, fun j hj hlt => by omega⟩))
    have hi : i < S.length := by omega
    cases m with
    | zero => omega
    | succ m =>
    have e1 : IntKind.wrap .i64 ((i : Int) - 1) = ((i - 1 : Nat) : Int) := by rw [wrap_i64 (by omega) (by omega)]; omega
    rw [e1]
    refine TP.optE (rdo_at hi) (TP.optE (rdo_at (by omega : i - 1 < S.length)) (TP.eqT (fun he => TP.some (.inr ⟨rfl, i, h1, hi, he⟩)) fun hne => ?_))
    rw [wnat (by omega)]
    refine TP.mono (chk_l1 S hl m (i + 1) (by omega) (by omega) (by omega)) fun v hv => ?_
    rcases hv with ⟨q1, q2⟩ | hv
    · refine .inl ⟨q1, fun j hj hlt => ?_⟩
      rcases Nat.eq_or_lt_of_le hj with e | e
      · subst e; exact hne
      · exact q2 j e hlt
    · exact .inr hv
theorem sorted_nd {S : List Elm} (hs : Sorted elt S) (h : ∀ j, 1 ≤ j → ∀ (hj : j < S.length), S[j].1 ≠ (S[j - 1]'(by omega)).1) : ND S := by
  unfold ND
  rw [List.pairwise_iff_getElem]
  unfold Sorted at hs
  rw [List.pairwise_iff_getElem] at hs
  intro i j hi hj hij e
  have a1 := hs i (i + 1) hi (by omega) (by omega)
  have a2 : elt S[j] (S[i + 1]'(by omega)) = false := by
    by_cases h1 : i + 1 = j
    · subst h1; exact ordE.irr _
    · exact hs (i + 1) j (by omega) hj (by omega)
  have hne := h (i + 1) (by omega) (by omega)
  simp only [Nat.add_sub_cancel] at hne
  refine hne ((eqv_name _ _).1 ?_)
  unfold eqv
  have a3 : elt (S[i]) (S[i + 1]'(by omega)) = false := by
    unfold elt at a2 ⊢
    rw [e]; exact a2
  rw [a1, a3]; rfl
theorem chk_l0 (p1 : ByteArray) (p2 : Int) (l : List Elm) (hl : l.length ≤ 30) (hf : ∀ f ∈ l, FOk f) : ∀ (m i : Nat), i + m = l.length → TP (fun k => paper_Check.l0 k l (l.length : Int) (i : Int) p1 p2 l) (fun v => v.1.1 = fchkV (ndV l) (l.drop i))
  | 0, i, h => by
    refine TP.step (fun k => rfl) (TP.dec (fun h' => absurd h' (by omega)) fun _ => ?_)
    rw [List.drop_of_length_le (by omega)]
    refine TP.bind (tidy_ok (p1, p2, l, ()) hl) fun v hv => ?_
    rw [hv]
    refine TP.mono (chk_l1 (tidyF l) (by rw [tidyF_len]; omega) (tidyF l).length 1 (Nat.le_refl _) (by omega) (by omega)) fun v hv => ?_
    show v.1.1 = ndV l
    rcases hv with ⟨q1, q2⟩ | ⟨q1, j, q2, hj, q3⟩
    · rw [q1, ndV_yes ((nd_tidy l).1 (sorted_nd (srtV_ok ordE _).1 fun j hj1 hj => q2 j hj1 hj))]
    · rw [q1, ndV_no]
      intro hnd
      have := (nd_tidy l).2 hnd
      unfold ND at this
      rw [List.pairwise_iff_getElem] at this
      exact this (j - 1) j (by omega) hj (by omega) q3.symm
  | m + 1, i, h => by
    have hi : i < l.length := by omega
    have hfo := hf _ (List.getElem_mem hi)
    refine TP.step (fun k => rfl) (TP.dec (fun _ => ?_) fun h' => absurd (by omega) h')
    rw [List.drop_eq_getElem_cons hi]
    refine TP.optE (rdo_at hi) (TP.bindR (isName_ok _ (by have := hfo.1; omega)) (TP.not (fun hw => ?_) fun hw => ?_))
    · have hw : wordB l[i].1 16 = false := hw
      refine TP.some ?_
      unfold fchkV; rw [hw]; rfl
    · have hw : wordB l[i].1 16 = true := hw
      refine TP.bindR (clean_ok _) (TP.bindR (right_ok _) (TP.not (fun hr => ?_) fun hr => ?_))
      · have hr : rightV (cleanV l[i].2.1) = false := hr
        refine TP.some ?_
        unfold fchkV; rw [hw, hr]; rfl
      · have hr : rightV (cleanV l[i].2.1) = true := hr
        rw [wnat (by omega)]
        refine TP.mono (chk_l0 p1 p2 l hl hf m (i + 1) (by omega)) fun v hv => ?_
        rw [hv]; conv => rhs; unfold fchkV; rw [hw, hr]
        rfl
theorem check_ok (p : Pap) (hp : POk p) : TP (fun k => paper_Check.f k p) (fun v => v.1.1 = checkV p) := by
  obtain ⟨h1, h2, h3⟩ := hp
  refine TP.step (fun k => rfl) (TP.bindR (isID_ok _ (by omega)) (TP.not (fun hw => ?_) fun hw => ?_))
  · have hw : wordB p.1 24 = false := hw
    refine TP.some ?_
    unfold checkV; rw [hw]; rfl
  have hw : wordB p.1 24 = true := hw
  refine TP.cond (fun c1 => TP.some ?_) fun c1 => TP.cond (fun c2 => TP.some ?_) fun c2 => TP.cond (fun c3 => TP.some ?_) fun c3 => TP.cond (fun c4 => TP.some ?_) fun c4 => ?_
  · unfold checkV; rw [hw, c1]; rfl
  · unfold checkV; rw [hw, c1, c2]; rfl
  · unfold checkV; rw [hw, c1, c2, c3]; rfl
  · unfold checkV; rw [hw, c1, c2, c3, c4]; rfl
  · refine TP.mono (TP.step (fun k => rfl) (chk_l0 p.1 p.2.1 p.2.2.1 h2 h3 _ 0 (Nat.zero_add _))) fun v hv => ?_
    rw [hv, List.drop_zero]
    unfold checkV; rw [hw, c1, c2, c3, c4]; rfl

/-! ## As the document has it -/
theorem lchk_l2 {Q : chartularylaw05_check.R → Prop} (p1 : ByteArray) (p2 : Int) (l : List Elm) (i : Nat) (hi : i < l.length) (hl : l.length ≤ 30) (hc : (∀ j, ∀ (h : j < i), l[i].1 ≠ (l[j]'(by omega)).1) → TP (fun k => chartularylaw05_check.l1 k (IntKind.wrap .i64 ((i : Int) + 1)) p1 p2 l) Q) (h10 : (∃ j, ∃ h : j < i, l[i].1 = (l[j]'(by omega)).1) → Q ((10, ()), ())) :
    ∀ (m j : Nat), j + m = i → (∀ q, q < j → ∀ (h : q < i), l[i].1 ≠ (l[q]'(by omega)).1) → TP (fun k => chartularylaw05_check.l2 k (i : Int) (j : Int) p1 p2 l) Q
  | 0, j, h, hd => by
    refine TP.step (fun k => rfl) (TP.dec (fun h' => absurd h' (by omega)) fun _ => hc fun q hq => hd q (by omega) hq)
  | m + 1, j, h, hd => by
    refine TP.step (fun k => rfl) (TP.dec (fun _ => ?_) fun h' => absurd (by omega) h')
    refine TP.optE (rdo_at hi) (TP.optE (rdo_at (by omega : j < l.length)) (TP.eqT (fun he => TP.some (h10 ⟨j, by omega, he⟩)) fun hne => ?_))
    rw [wnat (by omega)]
    refine lchk_l2 p1 p2 l i hi hl hc h10 m (j + 1) (by omega) fun q hq hqi => ?_
    rcases Nat.eq_or_lt_of_le (Nat.le_of_lt_succ hq) with e | e
    · subst e; exact hne
    · exact hd q e hqi
theorem lchk_l1 (p1 : ByteArray) (p2 : Int) (l : List Elm) (hl : l.length ≤ 30) : ∀ (m i : Nat), i + m = l.length → (∀ a b, ∀ (h : a < b) (hb : b < l.length), b < i → (l[a]'(by omega)).1 ≠ l[b].1) → TP (fun k => chartularylaw05_check.l1 k (i : Int) p1 p2 l) (fun v => v.1.1 = ndV l)
  | 0, i, h, hd => by
    refine TP.step (fun k => rfl) (TP.dec (fun h' => absurd h' (by omega)) fun _ => TP.some ?_)
    rw [ndV_yes]
    unfold ND
    rw [List.pairwise_iff_getElem]
    exact fun a b ha hb hab => hd a b hab hb (by omega)
  | m + 1, i, h, hd => by
    have hi : i < l.length := by omega
    refine TP.step (fun k => rfl) (TP.dec (fun _ => ?_) fun h' => absurd (by omega) h')
    refine lchk_l2 p1 p2 l i hi hl (fun hne => ?_) (fun ⟨j, hj, he⟩ => ?_) i 0 (Nat.zero_add _) (fun q hq => by omega)
    · rw [wnat (by omega)]
      refine lchk_l1 p1 p2 l hl m (i + 1) (by omega) fun a b hab hb hbi => ?_
      rcases Nat.eq_or_lt_of_le (Nat.le_of_lt_succ hbi) with e | e
      · subst e; exact fun e => hne a hab e.symm
      · exact hd a b hab hb e
    · show (10 : Int) = ndV l
      rw [ndV_no]
      intro hnd
      unfold ND at hnd
      rw [List.pairwise_iff_getElem] at hnd
      exact hnd j i (by omega) hi hj he.symm
theorem lchk_l0 (p1 : ByteArray) (p2 : Int) (l : List Elm) (hl : l.length ≤ 30) (hf : ∀ f ∈ l, FOk f) : ∀ (m i : Nat), i + m = l.length → TP (fun k => chartularylaw05_check.l0 k (i : Int) p1 p2 l) (fun v => v.1.1 = fchkV (ndV l) (l.drop i))
  | 0, i, h => by
    refine TP.step (fun k => rfl) (TP.dec (fun h' => absurd h' (by omega)) fun _ => ?_)
    rw [List.drop_of_length_le (by omega)]
    exact lchk_l1 p1 p2 l hl _ 0 (Nat.zero_add _) (fun a b hab hb hb0 => by omega)
  | m + 1, i, h => by
    have hi : i < l.length := by omega
    have hfo := hf _ (List.getElem_mem hi)
    refine TP.step (fun k => rfl) (TP.dec (fun _ => ?_) fun h' => absurd (by omega) h')
    rw [List.drop_eq_getElem_cons hi]
    refine TP.optE (rdo_at hi) (TP.bindR (lword_ok _ (by have := hfo.1; omega) 16) (TP.not (fun hw => ?_) fun hw => ?_))
    · have hw : wordB l[i].1 16 = false := hw
      refine TP.some ?_
      unfold fchkV; rw [hw]; rfl
    · have hw : wordB l[i].1 16 = true := hw
      refine TP.optE (rdo_at hi) (TP.bindR (clean_ok _) (TP.bindR (right_ok _) (TP.not (fun hr => ?_) fun hr => ?_)))
      · have hr : rightV (cleanV l[i].2.1) = false := hr
        refine TP.some ?_
        unfold fchkV; rw [hw, hr]; rfl
      · have hr : rightV (cleanV l[i].2.1) = true := hr
        rw [wnat (by omega)]
        refine TP.mono (lchk_l0 p1 p2 l hl hf m (i + 1) (by omega)) fun v hv => ?_
        rw [hv]; conv => rhs; unfold fchkV; rw [hw, hr]
        rfl
theorem lcheck_ok (p : Pap) (hp : POk p) : TP (fun k => chartularylaw05_check.f k p) (fun v => v.1.1 = checkV p) := by
  obtain ⟨h1, h2, h3⟩ := hp
  refine TP.step (fun k => rfl) (TP.bindR (lword_ok _ (by omega) 24) (TP.not (fun hw => ?_) fun hw => ?_))
  · have hw : wordB p.1 24 = false := hw
    refine TP.some ?_
    unfold checkV; rw [hw]; rfl
  have hw : wordB p.1 24 = true := hw
  have e8 : decide ((p.2.1 : Int) > 7) = decide (p.2.1 ≥ 8) := by
    by_cases h : p.2.1 ≥ 8
    · rw [decide_eq_true h, decide_eq_true (by omega)]
    · rw [decide_eq_false h, decide_eq_false (by omega)]
  refine TP.cond (fun c1 => TP.some ?_) fun c1 => TP.cond (fun c2 => TP.some ?_) fun c2 => TP.cond (fun c3 => TP.some ?_) fun c3 => TP.cond (fun c4 => TP.some ?_) fun c4 => ?_
  · unfold checkV; rw [hw, c1]; rfl
  · rw [e8] at c2; unfold checkV; rw [hw, c1, c2]; rfl
  · rw [e8] at c2; unfold checkV; rw [hw, c1, c2, c3]; rfl
  · rw [e8] at c2; unfold checkV; rw [hw, c1, c2, c3, c4]; rfl
  · rw [e8] at c2
    refine TP.mono (TP.step (fun k => rfl) (lchk_l0 p.1 p.2.1 p.2.2.1 h2 h3 _ 0 (Nat.zero_add _))) fun v hv => ?_
    rw [hv, List.drop_zero]
    unfold checkV; rw [hw, c1, c2, c3, c4]; rfl
end Go.Proofs.Ytabdmnoejoiboaa.Pure
