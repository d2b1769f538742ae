/- Plain laws of chapter 5: where a field is; which papers are one. -/
import Derived.Test.YtabdmnoejoiboaaP05f
import Derived.Test.YtabdmnoejoiboaaPAw05
namespace Go.Proofs.Ytabdmnoejoiboaa.Pure
open Go Go.Proofs.Ytabdmnoejoiboaa.E Go.Proofs.Ytabdmnoejoiboaa.Eng
set_option linter.unusedVariables false
set_option linter.unusedSimpArgs false

theorem wf_i64 {n : Int} (h : (Lit.int .i64 n).wf = true) : -9223372036854775808 ≤ n ∧ n ≤ 9223372036854775807 := by
  unfold Lit.wf at h
  simp only [Bool.and_eq_true, decide_eq_true_eq] at h
  exact h
theorem wf_u64 {n : Int} (h : (Lit.int .u64 n).wf = true) : 0 ≤ n ∧ n < 18446744073709551616 := by
  unfold Lit.wf at h
  simp only [Bool.and_eq_true, decide_eq_true_eq] at h
  exact ⟨h.1, Int.lt_of_le_of_lt h.2 (by decide)⟩
abbrev PapT : Ty := .cons .str (.cons (.int .i64) (.cons (.sl (.cons .str (.cons (.cons (.int .i64) (.cons .bool (.cons (.int .i64) (.cons (.int .u64) (.cons .str .nil))))) .nil))) .nil))
theorem pap_wf {p : Pap} (h : wfT PapT p) : ∀ f ∈ p.2.2.1, VOk f.2.1 := fun f hf => by
  have h1 := h.2.2.1 f hf
  have h2 := h1.2.1
  exact ⟨(wf_i64 h2.2.2.1).1, (wf_i64 h2.2.2.1).2, (wf_u64 h2.2.2.2.1).1, (wf_u64 h2.2.2.2.1).2⟩
theorem few_wf {p : Pap} (h : wfT PapT p) : TP (fun k => chartularylaw05_Few.f k p) (fun v => POk v.1.1 ∧ ∀ f ∈ v.1.1.2.2.1, VOk f.2.1) :=
  (few_ok2 p).mono fun v hv => ⟨hv.1, fun f hf => hv.2 f hf (pap_wf h)⟩

/-! ## Where a field is -/
def fieldI (name : ByteArray) (i : Nat) : List Elm → Int
  | [] => -1
  | f :: l => if f.1 = name then (i : Int) else fieldI name (i + 1) l
theorem ix_loop (l : List Elm) (name : ByteArray) (hb : l.length ≤ 1000) : ∀ (m i : Nat), i + m = l.length → Runs (fun k => slices_IndexFunc_api_Field_v0.l0 k l (l.length : Int) (i : Int) name) ((fieldI name i (l.drop i), ()), ())
  | 0, i, h => Runs.step (fun k => rfl) (Runs.dec (fun h' => absurd h' (by omega)) fun _ => Runs.some' (by rw [List.drop_of_length_le (by omega)]; rfl))
  | m + 1, i, h => by
    have hi : i < l.length := by omega
    refine Runs.step (fun k => rfl) (Runs.dec (fun h' => Runs.opt (rdo_at hi) (Runs.bind (v := ((decide (l[i].1 = name), ()), ())) (Runs.step (fun k => rfl) (Runs.some' (by dsimp only; rw [beq_text]))) (Runs.dec (fun hn => Runs.some' ?_) fun hn => ?_))) fun h' => absurd (by omega) h')
    · rw [List.drop_eq_getElem_cons hi]; unfold fieldI; rw [if_pos hn]
    · rw [wnat (by omega)]
      refine (ix_loop l name hb m (i + 1) (by omega)).of_eq ?_
      rw [List.drop_eq_getElem_cons hi]; conv => rhs; unfold fieldI
      rw [if_neg hn]
theorem find_ok (p : Pap) (name : ByteArray) (hb : p.2.2.1.length ≤ 1000) : Runs (fun k => paper_Find.f k p name) ((fieldI name 0 p.2.2.1, ()), ()) :=
  Runs.step (fun k => rfl) (Runs.bind (Runs.step (fun k => rfl) (ix_loop p.2.2.1 name hb _ 0 (Nat.zero_add _))) Runs.some)

/-! ## Which are one -/
theorem eq_loop (a b : List Elm) (hab : a.length = b.length) (hl : a.length ≤ 1000) : ∀ (m i : Nat), i + m = a.length →
    TP (fun k => slices_Equal_api_Field.l0 k a b (a.length : Int) (i : Int)) (fun v => v.1.1 = true ↔ a.drop i = b.drop i)
  | 0, i, h => by
    refine TP.step (fun k => rfl) (TP.dec (fun h' => absurd h' (by omega)) fun _ => TP.some ?_)
    rw [List.drop_of_length_le (by omega), List.drop_of_length_le (by omega)]
    exact ⟨fun _ => rfl, fun _ => rfl⟩
  | m + 1, i, h => by
    have hi : i < a.length := by omega
    have hj : i < b.length := by omega
    refine TP.step (fun k => rfl) (TP.dec (fun _ => ?_) fun h' => absurd (by omega) h')
    refine TP.optE (rdo_at hi) (TP.optE (rdo_at hj) (TP.not (fun hne => ?_) fun he => ?_))
    · have hne : eqElm a[i] b[i] = false := hne
      refine TP.some ⟨(fun h => by cases h), fun e => ?_⟩
      rw [List.drop_eq_getElem_cons hi, List.drop_eq_getElem_cons hj] at e
      rw [(eqElm_iff _ _).2 (List.cons.inj e).1] at hne
      cases hne
    · have he : eqElm a[i] b[i] = true := he
      have he := (eqElm_iff _ _).1 he
      rw [wnat (by omega)]
      refine TP.mono (eq_loop a b hab hl m (i + 1) (by omega)) fun v hv => ?_
      rw [hv, List.drop_eq_getElem_cons hi, List.drop_eq_getElem_cons hj, he]
      exact ⟨fun e => by rw [e], fun e => (List.cons.inj e).2⟩
theorem equal_ok (a b : List Elm) (hl : a.length ≤ 1000) : TP (fun k => slices_Equal_api_Field.f k a b) (fun v => v.1.1 = true ↔ a = b) := by
  refine TP.step (fun k => rfl) (TP.neI (fun h => TP.some ⟨(fun e => by cases e), fun e => absurd (by rw [e]) h⟩) fun h => ?_)
  refine TP.mono (eq_loop a b (Int.ofNat.inj h) hl _ 0 (Nat.zero_add _)) fun v hv => ?_
  rw [hv, List.drop_zero, List.drop_zero]
theorem psame_ok (p q : Pap) (hp : p.2.2.1.length ≤ 30) (hq : q.2.2.1.length ≤ 30) : TP (fun k => paper_Same.f k p q) (fun v => v.1.1 = true ↔ tidyV p = tidyV q) := by
  refine TP.step (fun k => rfl) (TP.bind (tidy_ok p hp) fun v hv => TP.bind (tidy_ok q hq) fun w hw => ?_)
  obtain ⟨⟨a, ⟨⟩⟩, ⟨⟩⟩ := v
  obtain ⟨⟨b, ⟨⟩⟩, ⟨⟩⟩ := w
  have hv : a = tidyV p := hv
  have hw : b = tidyV q := hw
  have hl : a.2.2.1.length ≤ 1000 := by rw [hv]; show (tidyF p.2.2.1).length ≤ 1000; rw [tidyF_len]; omega
  rw [← hv, ← hw]
  obtain ⟨a1, a2, a3, ⟨⟩⟩ := a
  obtain ⟨b1, b2, b3, ⟨⟩⟩ := b
  have no : ∀ {P : Prop}, ¬ P → ((((false, ()), ()) : paper_Same.R).1.1 = true ↔ P) := fun h => ⟨(fun e => by cases e), fun e => absurd e h⟩
  refine TP.eqT (fun h1 => TP.eqI (fun h2 => TP.bind (equal_ok a3 b3 hl) fun v h3 => TP.some ?_) fun h => TP.some (no fun e => h (by rw [e]))) fun h => TP.some (no fun e => h (by rw [e]))
  have h1 : a1 = b1 := h1
  have h2 : a2 = b2 := h2
  have h3 : v.1.1 = true ↔ a3 = b3 := h3
  subst h1; subst h2
  exact ⟨fun h => by rw [h3.1 h], fun e => h3.2 (by injection e with _ e; injection e with _ e; injection e)⟩
end Go.Proofs.Ytabdmnoejoiboaa.Pure
