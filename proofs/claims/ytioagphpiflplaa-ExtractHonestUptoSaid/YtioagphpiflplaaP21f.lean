/- Plain laws of chapter 21: facts against one another; no two believed proofs of one root have such, where no two texts of one sum were summed. -/
import Derived.Test.YtioagphpiflplaaP21e
namespace Go.Proofs.Ytioagphpiflplaa.Pure
open Go Go.Proofs.Ytioagphpiflplaa.E Go.Proofs.Ytioagphpiflplaa.Eng
set_option linter.unusedVariables false
set_option linter.unusedSimpArgs false

/-- Can two facts not both be? -/
def Ag (x y : Fact) : Prop := x.2.1 = y.2.1 ∧ x.2.2.1 = y.2.2.1 ∧ x.2.2.2.2.1 = false ∧ y.2.2.2.2.1 = false ∧ ¬ (x.1 = y.1 ∧ x.2.2.2.1 = y.2.2.2.1 ∧ x.2.2.2.2.2.1 = y.2.2.2.2.2.1)
def AgL (x y : List Fact) : Prop := ∃ a ∈ x, ∃ b ∈ y, Ag a b
theorem value_eq (x y : ValueT) : ((x.1 : Int) == y.1 && (x.2.1 == y.2.1 && ((x.2.2.1 : Int) == y.2.2.1 && ((x.2.2.2.1 : Int) == y.2.2.2.1 && (seqB x.2.2.2.2.1 y.2.2.2.2.1 && true))))) = true ↔ x = y := by
  obtain ⟨a, b, c, d, e, ⟨⟩⟩ := x
  obtain ⟨a', b', c', d', e', ⟨⟩⟩ := y
  simp [seqB_iff]
theorem ag_ok (x y : Fact) : TP (fun k => auditor_Against.f k x y) (fun v => v.1.1 = true ↔ Ag x y) := by
  refine TP.step (fun k => rfl) (TP.neI (fun h => TP.some ⟨(fun e => (by cases e)), fun e => absurd e.1 h⟩) fun h1 => TP.neI (fun h => TP.some ⟨(fun e => (by cases e)), fun e => absurd e.2.1 h⟩) fun h2 => TP.cond (fun h => TP.some ⟨(fun e => (by cases e)), fun e => by have := e.2.2.1; rw [h] at this; cases this⟩) fun h3 => TP.cond (fun h => TP.some ⟨(fun e => (by cases e)), fun e => by have := e.2.2.2.1; rw [h] at this; cases this⟩) fun h4 => TP.neT (fun h => TP.some ⟨fun _ => ⟨h1, h2, h3, h4, fun e => h e.1⟩, fun _ => rfl⟩) fun h5 => TP.neT (fun h => TP.some ⟨fun _ => ⟨h1, h2, h3, h4, fun e => h e.2.1⟩, fun _ => rfl⟩) fun h6 => TP.some ?_)
  have hv := value_eq x.2.2.2.2.2.1 y.2.2.2.2.2.1
  refine ⟨fun e => ⟨h1, h2, h3, h4, fun g => ?_⟩, fun e => ?_⟩
  · have e : (!_) = true := e
    rw [hv.2 g.2.2] at e; cases e
  · have hne : ¬ _ := fun g => e.2.2.2.2 ⟨h5, h6, hv.1 g⟩
    show (!_) = true
    rw [Bool.eq_false_iff.2 hne]; rfl
theorem agl_cons (a : Fact) (l y : List Fact) : AgL (a :: l) y ↔ (∃ b ∈ y, Ag a b) ∨ AgL l y := by
  constructor
  · rintro ⟨x, hx, hb⟩
    rcases List.mem_cons.1 hx with rfl | hx
    · exact Or.inl hb
    · exact Or.inr ⟨x, hx, hb⟩
  · rintro (h | ⟨x, hx, hb⟩)
    · exact ⟨a, List.mem_cons_self .., h⟩
    · exact ⟨x, List.mem_cons_of_mem _ hx, hb⟩
theorem agl_nil (y : List Fact) : ¬ AgL [] y := fun ⟨a, ha, _⟩ => nomatch ha
theorem eag_l1 (x y : List Fact) (hy : y.length ≤ 1000000000) (i : Int) (a : Fact) (A : Prop) (hc : TP (fun k => extract_against.l0 k y x (x.length : Int) (IntKind.wrap .i64 (i + 1))) (fun v => v.1.1 = true ↔ A)) : ∀ (m j : Nat), j + m = y.length →
    TP (fun k => extract_against.l1 k y x (x.length : Int) i y (y.length : Int) (j : Int) a.1 a.2.1 a.2.2.1 a.2.2.2.1 a.2.2.2.2.1 a.2.2.2.2.2.1) (fun v => v.1.1 = true ↔ (∃ b ∈ y.drop j, Ag a b) ∨ A)
  | 0, j, h => TP.step (fun k => rfl) (TP.dec (fun h' => absurd h' (by omega)) fun _ => TP.mono hc fun v hv => hv.trans ⟨Or.inr, fun e => e.elim (fun ⟨b, hb, _⟩ => by rw [List.drop_of_length_le (by omega)] at hb; cases hb) id⟩)
  | m + 1, j, h => by
    have hj : j < y.length := by omega
    refine TP.step (fun k => rfl) (TP.dec (fun h' => TP.optE (rdo_at hj) (TP.bind (ag_ok a y[j]) fun v hv => TP.cond (fun h => TP.some ⟨fun _ => Or.inl ⟨y[j], ?_, hv.1 h⟩, fun _ => rfl⟩) fun h => ?_)) fun h' => absurd (by omega : (j : Int) < y.length) h')
    · rw [List.drop_eq_getElem_cons hj]; exact List.mem_cons_self ..
    · rw [show IntKind.wrap .i64 ((j : Int) + 1) = ((j + 1 : Nat) : Int) by rw [wrap_i64 (by omega) (by omega)]; rfl]
      refine TP.mono (eag_l1 x y hy i a A hc m (j + 1) (by omega)) fun w hw => hw.trans ?_
      rw [List.drop_eq_getElem_cons hj]
      have hn : ¬ Ag a y[j] := fun e => by have := hv.2 e; rw [this] at h; cases h
      constructor
      · rintro (⟨b, hb, g⟩ | g)
        · exact Or.inl ⟨b, List.mem_cons_of_mem _ hb, g⟩
        · exact Or.inr g
      · rintro (⟨b, hb, g⟩ | g)
        · rcases List.mem_cons.1 hb with rfl | hb
          · exact absurd g hn
          · exact Or.inl ⟨b, hb, g⟩
        · exact Or.inr g
theorem eag_l0 (x y : List Fact) (hx : x.length ≤ 1000000000) (hy : y.length ≤ 1000000000) : ∀ (m i : Nat), i + m = x.length → TP (fun k => extract_against.l0 k y x (x.length : Int) (i : Int)) (fun v => v.1.1 = true ↔ AgL (x.drop i) y)
  | 0, i, h => TP.step (fun k => rfl) (TP.dec (fun h' => absurd h' (by omega)) fun _ => TP.some ⟨(fun e => (by cases e)), fun e => by rw [List.drop_of_length_le (by omega)] at e; exact absurd e (agl_nil _)⟩)
  | m + 1, i, h => by
    have hi : i < x.length := by omega
    have nx := eag_l0 x y hx hy m (i + 1) (by omega)
    rw [show ((i + 1 : Nat) : Int) = IntKind.wrap .i64 ((i : Int) + 1) by rw [wrap_i64 (by omega) (by omega)]; rfl] at nx
    refine TP.step (fun k => rfl) (TP.dec (fun h' => TP.optE (rdo_at hi) (TP.mono (eag_l1 x y hy i x[i] _ nx y.length 0 (Nat.zero_add _)) fun v hv => ?_)) fun h' => absurd (by omega : (i : Int) < x.length) h')
    rw [List.drop_zero] at hv
    rw [hv, List.drop_eq_getElem_cons hi, agl_cons]
theorem eag_ok (x y : List Fact) (hx : x.length ≤ 1000000000) (hy : y.length ≤ 1000000000) : TP (fun k => extract_against.f k x y) (fun v => v.1.1 = true ↔ AgL x y) :=
  TP.step (fun k => rfl) (TP.mono (eag_l0 x y hx hy x.length 0 (Nat.zero_add _)) fun v hv => by rw [List.drop_zero] at hv; exact hv)
theorem lag_l1 (x y : List Fact) (hy : y.length ≤ 1000000000) (i : Nat) (hi : i < x.length) (A : Prop) (hc : TP (fun k => chartularylaw21_against.l0 k x y (IntKind.wrap .i64 ((i : Int) + 1))) (fun v => v.1.1 = true ↔ A)) : ∀ (m j : Nat), j + m = y.length →
    TP (fun k => chartularylaw21_against.l1 k x y (i : Int) (j : Int)) (fun v => v.1.1 = true ↔ (∃ b ∈ y.drop j, Ag x[i] b) ∨ A)
  | 0, j, h => TP.step (fun k => rfl) (TP.dec (fun h' => absurd h' (by omega)) fun _ => TP.mono hc fun v hv => hv.trans ⟨Or.inr, fun e => e.elim (fun ⟨b, hb, _⟩ => by rw [List.drop_of_length_le (by omega)] at hb; cases hb) id⟩)
  | m + 1, j, h => by
    have hj : j < y.length := by omega
    refine TP.step (fun k => rfl) (TP.dec (fun h' => TP.optE (rdo_at hi) (TP.optE (rdo_at hj) (TP.bind (ag_ok x[i] y[j]) fun v hv => TP.cond (fun h => TP.some ⟨fun _ => Or.inl ⟨y[j], ?_, hv.1 h⟩, fun _ => rfl⟩) fun h => ?_))) fun h' => absurd (by omega : (j : Int) < y.length) h')
    · rw [List.drop_eq_getElem_cons hj]; exact List.mem_cons_self ..
    · rw [show IntKind.wrap .i64 ((j : Int) + 1) = ((j + 1 : Nat) : Int) by rw [wrap_i64 (by omega) (by omega)]; rfl]
      refine TP.mono (lag_l1 x y hy i hi A hc m (j + 1) (by omega)) fun w hw => hw.trans ?_
      rw [List.drop_eq_getElem_cons hj]
      have hn : ¬ Ag x[i] y[j] := fun e => by have := hv.2 e; rw [this] at h; cases h
      constructor
      · rintro (⟨b, hb, g⟩ | g)
        · exact Or.inl ⟨b, List.mem_cons_of_mem _ hb, g⟩
        · exact Or.inr g
      · rintro (⟨b, hb, g⟩ | g)
        · rcases List.mem_cons.1 hb with rfl | hb
          · exact absurd g hn
          · exact Or.inl ⟨b, hb, g⟩
        · exact Or.inr g
theorem lag_l0 (x y : List Fact) (hx : x.length ≤ 1000000000) (hy : y.length ≤ 1000000000) : ∀ (m i : Nat), i + m = x.length → TP (fun k => chartularylaw21_against.l0 k x y (i : Int)) (fun v => v.1.1 = true ↔ AgL (x.drop i) y)
  | 0, i, h => TP.step (fun k => rfl) (TP.dec (fun h' => absurd h' (by omega)) fun _ => TP.some ⟨(fun e => (by cases e)), fun e => by rw [List.drop_of_length_le (by omega)] at e; exact absurd e (agl_nil _)⟩)
  | m + 1, i, h => by
    have hi : i < x.length := by omega
    have nx := lag_l0 x y hx hy m (i + 1) (by omega)
    rw [show ((i + 1 : Nat) : Int) = IntKind.wrap .i64 ((i : Int) + 1) by rw [wrap_i64 (by omega) (by omega)]; rfl] at nx
    refine TP.step (fun k => rfl) (TP.dec (fun h' => TP.mono (lag_l1 x y hy i hi _ nx y.length 0 (Nat.zero_add _)) fun v hv => ?_) fun h' => absurd (by omega : (i : Int) < x.length) h')
    rw [List.drop_zero] at hv
    rw [hv, List.drop_eq_getElem_cons hi, agl_cons]
theorem lag_ok (x y : List Fact) (hx : x.length ≤ 1000000000) (hy : y.length ≤ 1000000000) : TP (fun k => chartularylaw21_against.f k x y) (fun v => v.1.1 = true ↔ AgL x y) :=
  TP.step (fun k => rfl) (TP.mono (lag_l0 x y hx hy x.length 0 (Nat.zero_add _)) fun v hv => by rw [List.drop_zero] at hv; exact hv)
section
variable {T : Tab}
end
end Go.Proofs.Ytioagphpiflplaa.Pure
