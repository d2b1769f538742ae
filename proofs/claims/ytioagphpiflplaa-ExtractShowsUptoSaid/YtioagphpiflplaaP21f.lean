/- Plain laws of chapter 21: facts against one another; no two believed proofs of one root have such, where no two texts of one sum were summed. -/
import Derived.Test.YtioagphpiflplaaP21e
namespace Go.Proofs.Ytioagphpiflplaa.Pure
open Go Go.Proofs.Ytioagphpiflplaa.E Go.Proofs.Ytioagphpiflplaa.Eng
set_option linter.unusedVariables false
set_option linter.unusedSimpArgs false

/-- Can two facts not both be? -/
def Ag (x y : Fact) : Prop := x.2.1 = y.2.1 ∧ x.2.2.1 = y.2.2.1 ∧ x.2.2.2.2.1 = false ∧ y.2.2.2.2.1 = false ∧ ¬ (x.1 = y.1 ∧ x.2.2.2.1 = y.2.2.2.1 ∧ x.2.2.2.2.2.1 = y.2.2.2.2.2.1)
def AgL (x y : List Fact) : Prop := ∃ a ∈ x, ∃ b ∈ y, Ag a b
theorem value_eq (x y : ValueT) : ((x.1 : Int) == y.1 && (x.2.1 == y.2.1 && ((x.2.2.1 : Int) == y.2.2.1 && ((x.2.2.2.1 : Int) == y.2.2.2.1 && (seqB x.2.2.2.2.1 y.2.2.2.2.1 && true))))) = true ↔ x = y := by
  obtain ⟨a, b, c, d, e, ⟨⟩⟩ := x
  obtain ⟨a', b', c', d', e', ⟨⟩⟩ := y
  simp [seqB_iff]
theorem ag_ok (x y : Fact) : TP (fun k => auditor_Against.f k x y) (fun v => v.1.1 = true ↔ Ag x y) := by
  refine TP.step (fun k => rfl) (TP.neI (fun h => TP.some ⟨(fun e => (by cases e)), fun e => absurd e.1 h⟩) fun h1 => TP.neI (fun h => TP.some ⟨(fun e => (by cases e)), fun e => absurd e.2.1 h⟩) fun h2 => TP.cond (fun h => TP.some ⟨(fun e => (by cases e)), fun e => by have := e.2.2.1; rw [h] at this; cases this⟩) fun h3 => TP.cond (fun h => TP.some ⟨(fun e => (by cases e)), fun e => by have := e.2.2.2.1; rw [h] at this; cases this⟩) fun h4 => TP.neT (fun h => TP.some ⟨fun _ => ⟨h1, h2, h3, h4, fun e => h e.1⟩, fun _ => rfl⟩) fun h5 => TP.neT (fun h => TP.some ⟨fun _ => ⟨h1, h2, h3, h4, fun e => h e.2.1⟩, fun _ => rfl⟩) fun h6 => TP.some ?_)
  have hv := value_eq x.2.2.2.2.2.1 y.2.2.2.2.2.1
  refine ⟨fun e => ⟨h1, h2, h3, h4, fun g => ?_⟩, fun e => ?_⟩
  · have e : (!_) = true := e
    rw [hv.2 g.2.2] at e; cases e
  · have hne : ¬ _ := fun g => e.2.2.2.2 ⟨h5, h6, hv.1 g⟩
    show (!_) = true
    rw [Bool.eq_false_iff.2 hne]; rfl
theorem agl_cons (a : Fact) (l y : List Fact) : AgL (a :: l) y ↔ (∃ b ∈ y, Ag a b) ∨ AgL l y := by
  constructor
  · rintro ⟨x, hx, hb⟩
    rcases List.mem_cons.1 hx with rfl | hx
    · exact Or.inl hb
    · exact Or.inr ⟨x, hx, hb⟩
  · rintro (h | ⟨x, hx, hb⟩)
    · exact ⟨a, List.mem_cons_self .., h⟩
    · exact ⟨x, List.mem_cons_of_mem _ hx, hb⟩
theorem agl_nil (y : List Fact) : ¬ AgL [] y := fun ⟨a, ha, _⟩ => nomatch ha
theorem eag_l1 (x y : List Fact) (hy : y.length ≤ 1000000000) (i : Int) (a : Fact) (A : Prop) (hc : TP (fun k => extract_against.l0 k y x (x.length : Int) (IntKind.wrap .i64 (i + 1))) (fun v => v.1.1 = true ↔ A)) : ∀ (m j : Nat), j + m = y.length →
    TP (fun k => extract_against.l1 k y x (x.length : Int) i y (y.length : Int) (j : Int) a.1 a.2.1 a.2.2.1 a.2.2.2.1 a.2.2.2.2.1 a.2.2.2.2.2.1) (fun v => v.1.1 = true ↔ (∃ b ∈ y.drop j, Ag a b) ∨ A)
  | 0, j, h => TP.step (fun k => rfl) (TP.dec (fun h' => absurd h' (by omega)) fun _ => TP.mono hc fun v hv => hv.trans ⟨Or.inr, fun e => e.elim (fun ⟨b, hb, _⟩ => by rw [List.drop_of_length_le (by omega)] at hb; cases hb) id⟩)
  | m + 1, j, h => by
    have hj : j < y.length := by omega
    refine TP.step (fun k => rfl) (TP.dec (fun h' => TP.optE (rdo_at hj) (TP.bind (ag_ok a y[j]) fun v hv => TP.cond (fun h => TP.some ⟨fun _ => Or.inl ⟨y[j], ?_, hv.1 h⟩, fun _ => rfl⟩) fun h => ?_)) fun h' => absurd (by omega : (j : Int) < y.length) h')
    · rw [List.drop_eq_getElem_cons hj]; exact List.mem_cons_self ..
    · rw [show IntKind.wrap .i64 ((j : Int) + 1) = ((j + 1 : Nat) : Int) by rw [wrap_i64 (by omega) (by omega)]; rfl]
      refine TP.mono (eag_l1 x y hy i a A hc m (j + 1) (by omega)) fun w hw => hw.trans ?_
      rw [List.drop_eq_getElem_cons hj]
      have hn : ¬ Ag a y[j] := fun e => by have := hv.2 e; rw [this] at h; cases h
      constructor
      · rintro (⟨b, hb, g⟩ | g)
        · exact Or.inl ⟨b, List.mem_cons_of_mem _ hb, g⟩
        · exact Or.inr g
      · rintro (⟨b, hb, g⟩ | g)
        · rcases List.mem_cons.1 hb with rfl | hb
          · exact absurd g hn
          · exact Or.inl ⟨b, hb, g⟩
        · exact Or.inr g
theorem eag_l0 (x y : List Fact) (hx : x.length ≤ 1000000000) (hy : y.length ≤ 1000000000) : ∀ (m i : Nat), i + m = x.length → TP (fun k => extract_against.l0 k y x (x.length : Int) (i : Int)) (fun v => v.1.1 = true ↔ AgL (x.drop i) y)
  | 0, i, h => TP.step (fun k => rfl) (TP.dec (fun h' => absurd h' (by omega)) fun _ => TP.some ⟨(fun e => (by cases e)), fun e => by rw [List.drop_of_length_le (by omega)] at e; exact absurd e (agl_nil _)⟩)
  | m + 1, i, h => by
    have hi : i < x.length := by omega
    have nx := eag_l0 x y hx hy m (i + 1) (by omega)
    rw [show ((i + 1 : Nat) : Int) = IntKind.wrap .i64 ((i : Int) + 1) by rw [wrap_i64 (by omega) (by omega)]; rfl] at nx
    refine TP.step (fun k => rfl) (TP.dec (fun h' => TP.optE (rdo_at hi) (TP.mono (eag_l1 x y hy i x[i] _ nx y.length 0 (Nat.zero_add _)) fun v hv => ?_)) fun h' => absurd (by omega : (i : Int) < x.length) h')
    rw [List.drop_zero] at hv
    rw [hv, List.drop_eq_getElem_cons hi, agl_cons]
theorem eag_ok (x y : List Fact) (hx : x.length ≤ 1000000000) (hy : y.length ≤ 1000000000) : TP (fun k => extract_against.f k x y) (fun v => v.1.1 = true ↔ AgL x y) :=
  TP.step (fun k => rfl) (TP.mono (eag_l0 x y hx hy x.length 0 (Nat.zero_add _)) fun v hv => by rw [List.drop_zero] at hv; exact hv)
theorem lag_l1 (x y : List Fact) (hy : y.length ≤ 1000000000) (i : Nat) (hi : i < x.length) (A : Prop) (hc : TP (fun k => chartularylaw21_against.l0 k x y (IntKind.wrap .i64 ((i : Int) + 1))) (fun v => v.1.1 = true ↔ A)) : ∀ (m j : Nat), j + m = y.length →
    TP (fun k => chartularylaw21_against.l1 k x y (i : Int) (j : Int)) (fun v => v.1.1 = true ↔ (∃ b ∈ y.drop j, Ag x[i] b) ∨ A)
  | 0, j, h => TP.step (fun k => rfl) (TP.dec (fun h' => absurd h' (by omega)) fun _ => TP.mono hc fun v hv => hv.trans ⟨Or.inr, fun e => e.elim (fun ⟨b, hb, _⟩ => by rw [List.drop_of_length_le (by omega)] at hb; cases hb) id⟩)
  | m + 1, j, h => by
    have hj : j < y.length := by omega
    refine TP.step (fun k => rfl) (TP.dec (fun h' => TP.optE (rdo_at hi) (TP.optE (rdo_at hj) (TP.bind (ag_ok x[i] y[j]) fun v hv => TP.cond (fun h => TP.some ⟨fun _ => Or.inl ⟨y[j], ?_, hv.1 h⟩, fun _ => rfl⟩) fun h => ?_))) fun h' => absurd (by omega : (j : Int) < y.length) h')
    · rw [List.drop_eq_getElem_cons hj]; exact List.mem_cons_self ..
    · rw [show IntKind.wrap .i64 ((j : Int) + 1) = ((j + 1 : Nat) : Int) by rw [wrap_i64 (by omega) (by omega)]; rfl]
      refine TP.mono (lag_l1 x y hy i hi A hc m (j + 1) (by omega)) fun w hw => hw.trans ?_
      rw [List.drop_eq_getElem_cons hj]
      have hn : ¬ Ag x[i] y[j] := fun e => by have := hv.2 e; rw [this] at h; cases h
      constructor
      · rintro (⟨b, hb, g⟩ | g)
        · exact Or.inl ⟨b, List.mem_cons_of_mem _ hb, g⟩
        · exact Or.inr g
      · rintro (⟨b, hb, g⟩ | g)
        · rcases List.mem_cons.1 hb with rfl | hb
          · exact absurd g hn
          · exact Or.inl ⟨b, hb, g⟩
        · exact Or.inr g
theorem lag_l0 (x y : List Fact) (hx : x.length ≤ 1000000000) (hy : y.length ≤ 1000000000) : ∀ (m i : Nat), i + m = x.length → TP (fun k => chartularylaw21_against.l0 k x y (i : Int)) (fun v => v.1.1 = true ↔ AgL (x.drop i) y)
  | 0, i, h => TP.step (fun k => rfl) (TP.dec (fun h' => absurd h' (by omega)) fun _ => TP.some ⟨(fun e => (by cases e)), fun e => by rw [List.drop_of_length_le (by omega)] at e; exact absurd e (agl_nil _)⟩)
  | m + 1, i, h => by
    have hi : i < x.length := by omega
    have nx := lag_l0 x y hx hy m (i + 1) (by omega)
    rw [show ((i + 1 : Nat) : Int) = IntKind.wrap .i64 ((i : Int) + 1) by rw [wrap_i64 (by omega) (by omega)]; rfl] at nx
    refine TP.step (fun k => rfl) (TP.dec (fun h' => TP.mono (lag_l1 x y hy i hi _ nx y.length 0 (Nat.zero_add _)) fun v hv => ?_) fun h' => absurd (by omega : (i : Int) < x.length) h')
    rw [List.drop_zero] at hv
    rw [hv, List.drop_eq_getElem_cons hi, agl_cons]
theorem lag_ok (x y : List Fact) (hx : x.length ≤ 1000000000) (hy : y.length ≤ 1000000000) : TP (fun k => chartularylaw21_against.f k x y) (fun v => v.1.1 = true ↔ AgL x y) :=
  TP.step (fun k => rfl) (TP.mono (lag_l0 x y hx hy x.length 0 (Nat.zero_add _)) fun v hv => by rw [List.drop_zero] at hv; exact hv)
section
variable {T : Tab}
theorem paperV_good {s : Show} (g : ShowSm s) (r : ByteArray) : paperV T s.1 s.2.1 s.2.2.1 s.2.2.2.1 r = hashV T (leafT (paperT s.1 s.2.1 s.2.2.1 s.2.2.2.1 r)) := by
  have ha := g.a
  have hb := g.b
  have hc := g.c
  unfold paperV
  rw [if_neg]
  · rfl
  · rintro (h | h | h)
    · exact numO_ne (by omega) (by omega) h
    · exact numO_ne (by omega) (by omega) h
    · exact numO_ne (by omega) (by omega) h
/-- The leaf at a place that is shown. -/
theorem leaf_at {s : Show} {A : List ByteArray} {x : ByteArray} (hc : ¬ (s.2.2.2.1 < 1 ∨ s.2.2.2.1 > 12 ∨ (picksV s).length = 0 ∨ (picksV s).length ≠ (ileavesV T s).length ∨ risingB (picksV s) s.2.2.2.1 = false)) :
    Rising (picksV s) ∧ (∀ x ∈ picksV s, 0 ≤ x ∧ x < s.2.2.2.1) ∧ ∀ t ∈ s.2.2.2.2.1, t.1 ∈ picksV s ∧ (ileavesV T s)[cntP (picksV s) 0 t.1]? = some (ileafV T s.1 t) := by
  have h5 : risingB (picksV s) s.2.2.2.1 = true := by
    cases h : risingB (picksV s) s.2.2.2.1 with
    | true => rfl
    | false => exact absurd (Or.inr (Or.inr (Or.inr (Or.inr h)))) hc
  obtain ⟨hr, hin⟩ := rising_pair h5
  refine ⟨hr, hin, fun t ht => ⟨List.mem_map.2 ⟨t, ht, rfl⟩, ?_⟩⟩
  obtain ⟨j, hj, rfl⟩ := List.getElem_of_mem ht
  have hj' : j < (picksV s).length := by unfold picksV; rw [List.length_map]; exact hj
  have := cnt_at (picksV s) hr (fun x hx => (hin x hx).1) j hj'
  have e : (picksV s)[j] = (s.2.2.2.2.1[j]).1 := List.getElem_map (fun t : Item => t.1)
  rw [e] at this
  rw [this]
  unfold ileavesV
  rw [List.getElem?_map, List.getElem?_eq_getElem hj]; rfl
theorem believed_one (hT : Tok T) {V : List ByteArray} (hA : Apart T V) {s1 s2 : Show} {p : Int × ByteArray × Unit} (c1 : (CheckA T p s1).2.1 = 0) (c2 : (CheckA T p s2).2.1 = 0) (i1 : ShowIn T V s1) (i2 : ShowIn T V s2) : ¬ AgL (factsV s1) (factsV s2) := by
  rintro ⟨a, ha, b, hb, h1, h2, h3, h4, h5⟩
  obtain ⟨t, ht, rfl⟩ := List.mem_map.1 ha
  obtain ⟨u, hu, rfl⟩ := List.mem_map.1 hb
  have h1 : s1.2.2.2.2.2.2.1 = s2.2.2.2.2.2.2.1 := h1
  have h2 : t.1 = u.1 := h2
  have h3 : t.2.2.1 = false := h3
  have h4 : u.2.2.1 = false := h4
  obtain ⟨b1, z1, _, n1, _⟩ := CheckA_yes c1
  obtain ⟨b2, z2, _, n2, _⟩ := CheckA_yes c2
  have g1 := showB_sm b1
  have g2 := showB_sm b2
  obtain ⟨r1, q1, p1, _⟩ := endA_yes n1
  obtain ⟨r2, q2, p2, _⟩ := endA_yes n2
  obtain ⟨_, _, cs1, cp1, cd1, ce1⟩ := climb_yes q1
  obtain ⟨_, _, cs2, cp2, cd2, ce2⟩ := climb_yes q2
  have hz : s1.2.2.2.2.2.2.2.1 = s2.2.2.2.2.2.2.2.1 := z1.trans z2.symm
  have er : (cliV T s1).1 = (cliV T s2).1 := p1.trans p2.symm
  unfold cliV at er
  rw [ce1, ce2] at er
  have w2 := i2.c
  rw [← h1, ← hz] at cd2 er w2
  have ep := climb_inj hT hA cs1 cs2 _ _ _ _ _ (Nat.le_refl _) cp1 cp2 cd1 cd2 i1.c w2 er
  rw [paperV_good g1, paperV_good g2] at ep
  have x1 := reb_size hT s1 r1
  have x2 := reb_size hT s2 r2
  have ra1 := g1.a
  have ra2 := g2.a
  have rb1 := g1.b
  have rb2 := g2.b
  have rc1 := g1.c
  have rc2 := g2.c
  have ri1 := g1.id
  have ri2 := g2.id
  obtain ⟨eid, ecnt, ert⟩ := paperT_inj (by omega) (by omega) ⟨by omega, by omega⟩ ⟨by omega, by omega⟩ ⟨by omega, by omega⟩ ⟨by omega, by omega⟩ ⟨by omega, by omega⟩ ⟨by omega, by omega⟩ (by omega) (by omega) (leafT_inj (hA _ i1.p _ i2.p ep))
  obtain ⟨v1, A1, e1, k1, sn1, wk1⟩ := rebuild_yes r1
  obtain ⟨v2, A2, e2, k2, sn2, wk2⟩ := rebuild_yes r2
  have e1 : rebV T s1 = (v1, 0, ()) := e1
  have e2 : rebV T s2 = (v2, 0, ()) := e2
  rw [e1, e2] at ert
  have ert : v1 = v2 := ert
  subst ert
  obtain ⟨hr1, in1, at1⟩ := leaf_at (A := A1) (x := v1) k1
  obtain ⟨hr2, in2, at2⟩ := leaf_at (A := A2) (x := v1) k2
  obtain ⟨m1, l1⟩ := at1 t ht
  obtain ⟨m2, l2⟩ := at2 u hu
  have hit := in1 _ m1
  obtain ⟨i, hi⟩ := Int.eq_ofNat_of_zero_le hit.1
  rw [← h2, hi] at m2 l2
  rw [hi] at m1 l1 hit
  have w2 := i2.w
  rw [← ecnt] at wk2 w2
  obtain ⟨x, y1, y2⟩ := walk_at hT hA (picksV s1) (picksV s2) hr1 hr2 i m1 m2 _ 0 s1.2.2.2.1.toNat _ _ _ _ _ _ _ _ _ (Nat.le_refl _) (by omega) (by omega) (by omega) (ileavesV_s32 hT s1) sn1 (ileavesV_s32 hT s2) sn2 wk1 wk2 i1.w w2
  have y1 : (ileavesV T s1)[cntP (picksV s1) 0 (i : Int)]? = some x := y1
  have y2 : (ileavesV T s2)[cntP (picksV s2) 0 (i : Int)]? = some x := y2
  rw [l1] at y1
  rw [l2] at y2
  have el : ileafV T s1.1 t = ileafV T s2.1 u := (Option.some.inj y1).trans (Option.some.inj y2).symm
  have j1 := i1.i t ht
  have j2 := i2.i u hu
  have o1 := promV_size hT s1.1 (g1.i t ht)
  have o2 := promV_size hT s2.1 (g2.i u hu)
  have na1 := (g1.i t ht).a
  have na2 := (g2.i u hu).a
  have nv1 := (g1.i t ht).v
  have nv2 := (g2.i u hu).v
  have ns1 := (g1.i t ht).s
  have ns2 := (g2.i u hu).s
  obtain ⟨en, epr⟩ := sleafT_inj (by omega) (by omega) (by omega) (by omega) (hA _ j1.1 _ j2.1 el)
  unfold promV at epr
  rw [if_neg (by rw [h3]; decide), if_neg (by rw [h4]; decide)] at epr
  obtain ⟨_, _, ev⟩ := fieldT_inj (by omega) (by omega) (by omega) (by omega) (by omega) (by omega) (by omega) (by omega) (hA _ (j1.2 h3) _ (j2.2 h4) epr)
  refine h5 ⟨eid, en, ?_⟩
  unfold factV
  rw [if_neg (by rw [h3]; decide), if_neg (by rw [h4]; decide), ev]
end
end Go.Proofs.Ytioagphpiflplaa.Pure
