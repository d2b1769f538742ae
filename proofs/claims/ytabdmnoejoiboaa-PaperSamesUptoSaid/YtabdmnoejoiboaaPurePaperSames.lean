/- Plain law: PaperSames. -/
import Derived.Test.YtabdmnoejoiboaaP05g
import Derived.Test.YtabdmnoejoiboaaESPaperSames
namespace Go.Proofs.Ytabdmnoejoiboaa.Pure
open Go Go.Proofs.Ytabdmnoejoiboaa.E Go.Proofs.Ytabdmnoejoiboaa.Eng
set_option linter.unusedVariables false
set_option linter.unusedSimpArgs false

theorem bool_same {a b : Bool} {P : Prop} (h1 : a = true ↔ P) (h2 : b = true ↔ P) : (a == b) = true := by
  cases a <;> cases b <;> first | rfl | (exfalso; have := h1.1 rfl; have := h2.2 this; cases this) | (exfalso; have := h2.1 rfl; have := h1.2 this; cases this)
theorem sames_j0 (p q : Pap) (hp : POk p) (hvp : ∀ f ∈ p.2.2.1, VOk f.2.1) (hq : POk q) (hvq : ∀ f ∈ q.2.2.1, VOk f.2.1) (b : Bool) (hb : b = true ↔ tidyV p = tidyV q) :
    TP (fun k => chartularylaw05_PaperSames.j0 k b p.1 p.2.1 p.2.2.1 q.1 q.2.1 q.2.2.1) (fun v => v.1.1 = true) := by
  refine TP.step (fun k => rfl) (TP.bind (pbytes_ok p hp hvp) fun v hv => TP.bind (pbytes_ok q hq hvq) fun w hw => ?_)
  obtain ⟨v, ⟨⟩⟩ := v
  obtain ⟨w, ⟨⟩⟩ := w
  refine TP.neI (fun _ => awake_end fun _ => rfl) fun h1 => TP.neI (fun _ => awake_end fun _ => rfl) fun h2 => ?_
  rcases hv with ⟨c1, e1⟩ | ⟨c1, e1⟩
  · have e1 : v = _ := e1
    rw [e1] at h1; exact absurd h1 c1
  rcases hw with ⟨c2, e2⟩ | ⟨c2, e2⟩
  · have e2 : w = _ := e2
    rw [e2] at h2; exact absurd h2 c2
  have e1 : v = _ := e1
  have e2 : w = _ := e2
  subst e1; subst e2
  refine TP.yes (bool_same ?_ hb) (awake_end fun _ => rfl)
  rw [beq_text, decide_eq_true_eq]
  exact ⟨fun h => papB_inj hp hvp c1 hq hvq c2 h, fun h => by rw [h]⟩
theorem sames_l0 (name : ByteArray) (p q : Pap) (hp : POk p) (hvp : ∀ f ∈ p.2.2.1, VOk f.2.1) (hq : POk q) (hvq : ∀ f ∈ q.2.2.1, VOk f.2.1) : ∀ (i : Nat), i ≤ p.2.2.1.length → ∀ (at_ j : Int), at_ = fieldI name i (p.2.2.1.drop i) → j = (i : Int) - 1 →
    TP (fun k => chartularylaw05_PaperSames.l0 k name at_ j p.1 p.2.1 p.2.2.1 q.1 q.2.1 q.2.2.1) (fun v => v.1.1 = true)
  | 0, hi, a, j, ha, hj => by
    have hp1 := hp.2.1
    have hq1 := hq.2.1
    refine TP.step (fun k => rfl) (TP.dec (fun h => absurd h (by omega)) fun _ => TP.bind (ltidy_ok p hp1) fun v hv => TP.bind (ltidy_ok q hq1) fun w hw => ?_)
    obtain ⟨⟨v, ⟨⟩⟩, ⟨⟩⟩ := v
    obtain ⟨⟨w, ⟨⟩⟩, ⟨⟩⟩ := w
    have hv : v = tidyV p := hv
    have hw : w = tidyV q := hw
    subst hv; subst hw
    refine TP.bind (same_ok (tidyV p) (tidyV q) (by show (tidyF p.2.2.1).length ≤ 1000; rw [tidyF_len]; omega)) fun r hr => TP.bindR (find_ok p name (by omega)) (TP.neI (fun h => absurd ?_ h) fun _ => TP.bind (psame_ok p q hp1 hq1) fun t ht => TP.not (fun h => ?_) fun _ => sames_j0 p q hp hvp hq hvq _ hr)
    · rw [ha, List.drop_zero]
    · exact absurd (bool_same ht hr) (by rw [h]; decide)
  | i + 1, hi, a, j, ha, hj => by
    have hlt : i < p.2.2.1.length := by omega
    have hp1 := hp.2.1
    have ej : j = ((i : Nat) : Int) := by omega
    subst ej
    have ew : IntKind.wrap .i64 ((i : Int) - 1) = (i : Int) - 1 := wrap_i64 (by omega) (by omega)
    refine TP.step (fun k => rfl) (TP.yes (by apply decide_eq_true; omega) (TP.optE (rdo_at hlt) (TP.eqT (fun h => ?_) fun h => ?_)))
    · rw [ew]
      refine sames_l0 name p q hp hvp hq hvq i (by omega) _ _ ?_ rfl
      rw [List.drop_eq_getElem_cons hlt]; unfold fieldI; rw [if_pos h]
    · rw [ew]
      refine sames_l0 name p q hp hvp hq hvq i (by omega) _ _ ?_ rfl
      rw [ha, List.drop_eq_getElem_cons hlt]
      conv => rhs; unfold fieldI
      rw [if_neg h]
/-- The law. -/
theorem PaperSames : chartularylaw05_PaperSames.Pure := by
  intro p q name w0 w1 w2 hb
  refine TP.one (TP.step (fun k => rfl) (TP.bind (few_wf w0) fun v hp => TP.bind (few_wf w1) fun w hq => ?_))
  obtain ⟨⟨p, ⟨⟩⟩, ⟨⟩⟩ := v
  obtain ⟨⟨q, ⟨⟩⟩, ⟨⟩⟩ := w
  obtain ⟨hp, hvp⟩ := hp
  obtain ⟨hq, hvq⟩ := hq
  have hp : POk p := hp
  have hp1 := hp.2.1
  refine sames_l0 name p q hp hvp hq hvq p.2.2.1.length (Nat.le_refl _) _ _ ?_ ?_
  · rw [List.drop_length]; rfl
  · exact wrap_i64 (by dsimp only; omega) (by dsimp only; omega)
end Go.Proofs.Ytabdmnoejoiboaa.Pure
