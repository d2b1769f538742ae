/- Plain laws of chapter 5: papers tidied; which may be; which are one. -/
import Derived.Test.YtabdmnoejoiboaaP05a
namespace Go.Proofs.Ytabdmnoejoiboaa.Pure
open Go Go.Proofs.Ytabdmnoejoiboaa.E Go.Proofs.Ytabdmnoejoiboaa.Eng
set_option linter.unusedVariables false
set_option linter.unusedSimpArgs false

noncomputable def cleanF (f : Elm) : Elm := (f.1, cleanV f.2.1, ())
noncomputable def tidyF (l : List Elm) : List Elm := srtV elt (l.map cleanF)
noncomputable def tidyV (p : Pap) : Pap := (p.1, p.2.1, tidyF p.2.2.1, ())
theorem tidyF_len (l : List Elm) : (tidyF l).length = l.length := by unfold tidyF; rw [(srtV_ok ordE _).2.2, List.length_map]
theorem take_map {α β : Type} (f : α → β) (l : List α) {i : Nat} (h : i < l.length) : (l.take (i + 1)).map f = (l.take i).map f ++ [f l[i]] := by
  rw [List.take_add_one, List.getElem?_eq_getElem h]; simp only [Option.toList_some, List.map_append, List.map_cons, List.map_nil]
theorem tidy_loop (l : List Elm) (hl : l.length ≤ 30) (z1 : ByteArray) (z2 : Int) (z3 : List Elm) (id : ByteArray) (c : Int) : ∀ (m i : Nat), i + m = l.length → ∀ out, out = (l.take i).map cleanF →
    TP (fun k => paper_Tidy.l0 k l (l.length : Int) (i : Int) z1 z2 z3 id c out) (fun v => v.1.1 = (id, c, tidyF l, ()))
  | 0, i, h, out, ho => by
    refine TP.step (fun k => rfl) (TP.dec (fun h' => absurd h' (by omega)) fun _ => ?_)
    have e : out = l.map cleanF := by rw [ho, List.take_of_length_le (by omega)]
    rw [e]
    refine TP.bind (sort_ok (l.map cleanF) (by rw [List.length_map]; omega)) fun v hv => TP.some ?_
    rw [hv]; rfl
  | m + 1, i, h, out, ho => by
    have hi : i < l.length := by omega
    refine TP.step (fun k => rfl) (TP.dec (fun _ => ?_) fun h' => absurd (by omega) h')
    refine TP.optE (rdo_at hi) (TP.bindR (clean_ok _) (TP.ck ?_ ?_))
    · exact decide_eq_true (by rw [ho]; simp only [List.length_map, List.length_take, List.length_cons, List.length_nil]; omega)
    · rw [show IntKind.wrap .i64 ((i : Int) + 1) = ((i + 1 : Nat) : Int) by rw [wrap_i64 (by omega) (by omega)]; rfl]
      refine tidy_loop l hl z1 z2 z3 id c m (i + 1) (by omega) _ ?_
      rw [take_map cleanF l hi, ho]; rfl
theorem tidy_ok (p : Pap) (hl : p.2.2.1.length ≤ 30) : TP (fun k => paper_Tidy.f k p) (fun v => v.1.1 = tidyV p) :=
  TP.step (fun k => rfl) (tidy_loop p.2.2.1 hl _ _ _ _ _ _ 0 (Nat.zero_add _) [] rfl)
theorem gt_name (a b : ByteArray) : (!(Op.bytesLess a.toList b.toList || a.toList == b.toList)) = decide (cbV b a < 0) := by
  rw [beq_text, toList_eq, toList_eq, cb_less]
  have e1 := cb_neg a.data.toList b.data.toList
  have e2 := cb_zero a.data.toList b.data.toList
  unfold cbV
  by_cases h : a = b
  · subst h
    have : Lib.compareBytes a.data.toList a.data.toList = 0 := e2.2 rfl
    rw [this]; simp
  · have hne : Lib.compareBytes a.data.toList b.data.toList ≠ 0 := fun e => h (by
      have := e2.1 e
      cases a; cases b; congr 1; exact Array.toList_inj.1 this)
    rw [decide_eq_false h, Bool.or_false]
    by_cases hlt : Lib.compareBytes a.data.toList b.data.toList < 0
    · rw [decide_eq_true hlt, decide_eq_false (by omega)]; rfl
    · rw [decide_eq_false hlt, decide_eq_true (by omega)]; rfl
theorem ltidy_l1 {Q : chartularylaw05_tidy.R → Prop} {x1 : ByteArray} {x2 : Int} {l : List Elm} {z1 : ByteArray} {z2 : Int} {z3 : List Elm} {id : ByteArray} {c i : Int} {f : Elm} : ∀ (m : Nat) (L G : List Elm) (j : Int), L.length = m → j = (L.length : Int) → (L ++ G).length ≤ 1000 → Sorted elt (L ++ G) → (∀ y ∈ G, elt f y = true) →
    (∀ S, Sorted elt S → Same elt (L ++ G ++ [f]) S → S.length = (L ++ G).length + 1 → TP (fun k => chartularylaw05_tidy.l0 k (IntKind.wrap .i64 (i + 1)) x1 x2 l z1 z2 z3 id c S) Q) →
    TP (fun k => chartularylaw05_tidy.l1 k i j x1 x2 l z1 z2 z3 id c (L ++ G) f.1 f.2.1) Q
  | m, L, G, j, hm, hj, hl, hs, hG, hc => by
    have hl' := hl
    simp only [List.length_append] at hl'
    have e1 : (L ++ G).take (j - 0 : Int).toNat = L := by rw [show (j - 0 : Int).toNat = L.length by omega, List.take_left']; rfl
    have e2 : ((L ++ G).drop j.toNat).take (((L ++ G).length : Int) - j : Int).toNat = G := by
      rw [show j.toNat = L.length by omega, List.drop_left' rfl, show (((L ++ G).length : Int) - j : Int).toNat = G.length by simp only [List.length_append]; omega, List.take_length]
    have ends : (∀ y ∈ L, elt f y = false) → TP (fun k => (ck (decide (0 ≤ j) && decide (j ≤ ((L ++ G).length : Int)) && decide (((L ++ G).length : Int) ≤ ((L ++ G).length : Int)))).bind fun _ =>
        (ck (decide ((([] : List Elm).length + (((L ++ G).drop j.toNat).take (((L ++ G).length : Int) - j : Int).toNat).length) * 64 ≤ 70368744177664))).bind fun _ =>
        (ck (decide (0 ≤ 0) && decide (0 ≤ j) && decide (j ≤ ((L ++ G).length : Int)))).bind fun _ =>
        (ck (decide ((((L ++ G).take ((j - 0 : Int).toNat)).length + ([f] : List Elm).length) * 64 ≤ 70368744177664))).bind fun _ =>
        (ck (decide (((((L ++ G).take ((j - 0 : Int).toNat)) ++ ([f] : List Elm)).length + (([] : List Elm) ++ (((L ++ G).drop j.toNat).take (((L ++ G).length : Int) - j : Int).toNat)).length) * 64 ≤ 70368744177664))).bind fun _ =>
        chartularylaw05_tidy.l0 k (IntKind.wrap .i64 (i + 1)) x1 x2 l z1 z2 z3 id c ((((L ++ G).take ((j - 0 : Int).toNat)) ++ ([f] : List Elm)) ++ (([] : List Elm) ++ (((L ++ G).drop j.toNat).take (((L ++ G).length : Int) - j : Int).toNat)))) Q := by
      intro hL
      rw [e1, e2]
      refine TP.ck (by simp only [List.length_append, Bool.and_eq_true, decide_eq_true_eq]; omega) (TP.ck (decide_eq_true (by simp only [List.length_nil]; omega)) (TP.ck (by simp only [List.length_append, Bool.and_eq_true, decide_eq_true_eq]; omega) (TP.ck (decide_eq_true (by simp only [List.length_cons, List.length_nil]; omega)) (TP.ck (decide_eq_true (by simp only [List.length_append, List.length_cons, List.length_nil]; omega)) ?_))))
      obtain ⟨h1, h2⟩ := Sorted.ins ordE hs hG hL
      have := hc _ h1 h2 (by simp only [List.length_append, List.length_cons]; omega)
      simpa using this
    rcases List.eq_nil_or_concat L with hL | ⟨L0, y, hL⟩
    · refine TP.step (fun k => rfl) (TP.dec (fun h => by rw [hL] at hj; simp at hj; omega) fun _ => ?_)
      exact ends (fun y hy => by rw [hL] at hy; cases hy)
    · rw [List.concat_eq_append] at hL
      have hl0 : L.length = L0.length + 1 := by rw [hL]; simp
      have w1 : IntKind.wrap .i64 (j - 1) = j - 1 := wi (by omega) (by omega)
      have e3 : L ++ G = L0 ++ y :: G := by rw [hL]; simp
      have r1 : rdo (L ++ G) (j - 1) = some y := by rw [e3]; exact rdo_mid (by omega)
      refine TP.step (fun k => rfl) (TP.yes (decide_eq_true (by omega)) ?_)
      rw [w1]
      refine TP.ck (ckI (by omega) (by simp only [List.length_append]; omega)) (TP.optE r1 (TP.cond (fun hg => ?_) fun hg => ?_))
      · rw [gt_name] at hg
        cases m with
        | zero => omega
        | succ m =>
        rw [e3]
        refine ltidy_l1 m L0 (y :: G) (j - 1) (by omega) (by omega) (by rw [← e3]; exact hl) (by rw [← e3]; exact hs) (fun z hz => ?_) (fun S q1 q2 q3 => hc S q1 (by rw [e3]; exact q2) (by rw [e3]; exact q3))
        rcases List.mem_cons.1 hz with e | hz
        · rw [e]; exact hg
        · exact hG z hz
      · rw [gt_name] at hg
        refine ends ?_
        have hsl := hs.left
        rw [hL] at hsl ⊢
        exact hsl.last ordE hg
theorem ltidy_loop (x1 : ByteArray) (x2 : Int) (l : List Elm) (hl : l.length ≤ 30) (z1 : ByteArray) (z2 : Int) (z3 : List Elm) (id : ByteArray) (c : Int) : ∀ (m i : Nat), i + m = l.length → ∀ S, Sorted elt S → Same elt ((l.take i).map cleanF) S → S.length = i →
    TP (fun k => chartularylaw05_tidy.l0 k (i : Int) x1 x2 l z1 z2 z3 id c S) (fun v => v.1.1 = (id, c, tidyF l, ()))
  | 0, i, h, S, h1, h2, h3 => by
    refine TP.step (fun k => rfl) (TP.dec (fun h' => absurd h' (by omega)) fun _ => TP.some ?_)
    rw [List.take_of_length_le (by omega)] at h2
    have : S = tidyF l := srtV_of ordE h1 h2
    rw [this]
  | m + 1, i, h, S, h1, h2, h3 => by
    have hi : i < l.length := by omega
    refine TP.step (fun k => rfl) (TP.dec (fun _ => ?_) fun h' => absurd (by omega) h')
    refine TP.optE (rdo_at hi) (TP.optE (rdo_at hi) (TP.bindR (clean_ok _) ?_))
    have := ltidy_l1 (Q := fun v => v.1.1 = (id, c, tidyF l, ())) (x1 := x1) (x2 := x2) (l := l) (z1 := z1) (z2 := z2) (z3 := z3) (id := id) (c := c) (i := (i : Int)) (f := cleanF l[i]) S.length S [] (S.length : Int) rfl rfl (by simp; omega) (by simpa using h1) (fun y hy => by cases hy) (fun S' q1 q2 q3 => by
      rw [show IntKind.wrap .i64 ((i : Int) + 1) = ((i + 1 : Nat) : Int) by rw [wrap_i64 (by omega) (by omega)]; rfl]
      refine ltidy_loop x1 x2 l hl z1 z2 z3 id c m (i + 1) (by omega) S' q1 ?_ (by simp at q3; omega)
      rw [take_map cleanF l hi]
      simp only [List.append_nil] at q2
      exact (h2.app (Same.refl _)).trans q2)
    rw [List.append_nil] at this
    exact this
theorem ltidy_ok (p : Pap) (hl : p.2.2.1.length ≤ 30) : TP (fun k => chartularylaw05_tidy.f k p) (fun v => v.1.1 = tidyV p) :=
  TP.step (fun k => rfl) (ltidy_loop _ _ p.2.2.1 hl _ _ _ _ _ _ 0 (Nat.zero_add _) [] List.Pairwise.nil (Same.refl _) rfl)

/-! ## Are two papers one? -/
def eqElm (a b : Elm) : Bool := (seqB a.1 b.1 && eqVal a.2.1 b.2.1)
theorem eqElm_iff (a b : Elm) : eqElm a b = true ↔ a = b := by
  obtain ⟨a1, a2, ⟨⟩⟩ := a
  obtain ⟨b1, b2, ⟨⟩⟩ := b
  unfold eqElm
  rw [seqB_eq, eqVal_iff, Bool.and_eq_true, decide_eq_true_eq, decide_eq_true_eq]
  constructor
  · rintro ⟨h1, h2⟩
    have h1 : a1 = b1 := h1
    have h2 : a2 = b2 := h2
    rw [h1, h2]
  · intro e; injection e with e1 e; injection e with e2 _; exact ⟨e1, e2⟩
theorem same_loop (x1 : ByteArray) (x2 : Int) (a : List Elm) (y1 : ByteArray) (y2 : Int) (b : List Elm) (hab : a.length = b.length) (hl : a.length ≤ 1000) : ∀ (m i : Nat), i + m = a.length →
    TP (fun k => chartularylaw05_same.l0 k (i : Int) x1 x2 a y1 y2 b) (fun v => v.1.1 = true ↔ a.drop i = b.drop i)
  | 0, i, h => by
    refine TP.step (fun k => rfl) (TP.dec (fun h' => absurd h' (by omega)) fun _ => TP.some ?_)
    rw [List.drop_of_length_le (by omega), List.drop_of_length_le (by omega)]
    exact ⟨fun _ => rfl, fun _ => rfl⟩
  | m + 1, i, h => by
    have hi : i < a.length := by omega
    have hj : i < b.length := by omega
    refine TP.step (fun k => rfl) (TP.dec (fun _ => ?_) fun h' => absurd (by omega) h')
    refine TP.optE (rdo_at hi) (TP.optE (rdo_at hj) (TP.not (fun hne => ?_) fun he => ?_))
    · have hne : eqElm a[i] b[i] = false := hne
      refine TP.some ⟨(fun h => by cases h), fun e => ?_⟩
      rw [List.drop_eq_getElem_cons hi, List.drop_eq_getElem_cons hj] at e
      rw [(eqElm_iff _ _).2 (List.cons.inj e).1] at hne
      cases hne
    · have he : eqElm a[i] b[i] = true := he
      have he := (eqElm_iff _ _).1 he
      rw [show IntKind.wrap .i64 ((i : Int) + 1) = ((i + 1 : Nat) : Int) by rw [wrap_i64 (by omega) (by omega)]; rfl]
      refine TP.mono (same_loop x1 x2 a y1 y2 b hab hl m (i + 1) (by omega)) fun v hv => ?_
      rw [hv, List.drop_eq_getElem_cons hi, List.drop_eq_getElem_cons hj, he]
      exact ⟨fun e => by rw [e], fun e => (List.cons.inj e).2⟩
theorem same_ok (p q : Pap) (hp : p.2.2.1.length ≤ 1000) : TP (fun k => chartularylaw05_same.f k p q) (fun v => v.1.1 = true ↔ p = q) := by
  obtain ⟨p1, p2, p3, ⟨⟩⟩ := p
  obtain ⟨q1, q2, q3, ⟨⟩⟩ := q
  have no : ∀ {P : Prop}, ¬ P → ((((false, ()), ()) : chartularylaw05_same.R).1.1 = true ↔ P) := fun h => ⟨(fun e => by cases e), fun e => absurd e h⟩
  refine TP.step (fun k => rfl) (TP.neT (fun h => TP.some (no fun e => h ?_)) fun h1 => TP.neI (fun h => TP.some (no fun e => h ?_)) fun h2 => TP.neI (fun h => TP.some (no fun e => h ?_)) fun h3 => ?_)
  · rw [e]
  · rw [e]
  · rw [e]
  refine TP.mono (TP.step (fun k => rfl) (same_loop p1 p2 p3 q1 q2 q3 (by exact Int.ofNat.inj h3) hp _ 0 (Nat.zero_add _))) fun v hv => ?_
  rw [hv, List.drop_zero, List.drop_zero]
  have h1 : p1 = q1 := h1
  have h2 : p2 = q2 := h2
  subst h1; subst h2
  exact ⟨fun h => by rw [h], fun e => by injection e with _ e; injection e with _ e; injection e⟩

/-! ## No name twice -/
def ND (l : List Elm) : Prop := l.Pairwise fun a b => a.1 ≠ b.1
theorem eqv_name (a b : Elm) : eqv elt a b = true ↔ a.1 = b.1 := by
  unfold eqv elt
  have e1 := cb_neg a.1.data.toList b.1.data.toList
  have e2 := cb_zero a.1.data.toList b.1.data.toList
  unfold cbV
  constructor
  · intro h
    simp only [Bool.and_eq_true, Bool.not_eq_true', decide_eq_false_iff_not] at h
    have := e2.1 (by omega)
    obtain ⟨⟨x⟩, _⟩ := a; obtain ⟨⟨y⟩, _⟩ := b
    simp only at this
    show (⟨x⟩ : ByteArray) = ⟨y⟩
    congr 1; exact Array.toList_inj.1 this
  · intro h
    have := e2.2 (by rw [h])
    simp only [Bool.and_eq_true, Bool.not_eq_true', decide_eq_false_iff_not]
    omega
theorem nd_iff : ∀ (l : List Elm), ND l ↔ ∀ c, (l.filter (eqv elt c)).length ≤ 1
  | [] => ⟨fun _ c => by simp, fun _ => List.Pairwise.nil⟩
  | x :: l => by
    have ih := nd_iff l
    constructor
    · intro h c
      have h' := List.pairwise_cons.1 h
      by_cases hc : eqv elt c x = true
      · rw [List.filter_cons_of_pos hc]
        have : l.filter (eqv elt c) = [] := List.filter_eq_nil_iff.2 fun y hy hcy => h'.1 y hy (((eqv_name c x).1 hc).symm.trans ((eqv_name c y).1 hcy))
        rw [this]; simp
      · rw [List.filter_cons_of_neg hc]; exact ih.1 h'.2 c
    · intro h
      refine List.pairwise_cons.2 ⟨fun y hy e => ?_, ih.2 fun c => ?_⟩
      · have := h x
        rw [List.filter_cons_of_pos (eqv_self ordE x)] at this
        have hy2 : y ∈ l.filter (eqv elt x) := List.mem_filter.2 ⟨hy, (eqv_name x y).2 e⟩
        have h9 : 0 < (l.filter (eqv elt x)).length := List.length_pos_of_mem hy2
        simp only [List.length_cons] at this; omega
      · have := h c
        by_cases hc : eqv elt c x = true
        · rw [List.filter_cons_of_pos hc] at this; simp only [List.length_cons] at this; omega
        · rwa [List.filter_cons_of_neg hc] at this
theorem nd_same {l l' : List Elm} (h : Same elt l l') : ND l' ↔ ND l := by
  rw [nd_iff, nd_iff]
  constructor
  · intro q c; rw [← h c]; exact q c
  · intro q c; rw [h c]; exact q c
theorem nd_clean (l : List Elm) : ND (l.map cleanF) ↔ ND l := by unfold ND; rw [List.pairwise_map]; rfl
theorem nd_tidy (l : List Elm) : ND (tidyF l) ↔ ND l := (nd_same (srtV_ok ordE _).2.1).trans (nd_clean l)
end Go.Proofs.Ytabdmnoejoiboaa.Pure
