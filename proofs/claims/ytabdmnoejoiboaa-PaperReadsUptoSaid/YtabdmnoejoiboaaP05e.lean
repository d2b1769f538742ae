/- Plain laws of chapter 5: papers as bytes. -/
import Derived.Test.YtabdmnoejoiboaaP05d
namespace Go.Proofs.Ytabdmnoejoiboaa.Pure
open Go Go.Proofs.Ytabdmnoejoiboaa.E Go.Proofs.Ytabdmnoejoiboaa.Eng
set_option linter.unusedVariables false
set_option linter.unusedSimpArgs false

/-! ## Tidied again -/
theorem nan_quiet : nanB 9221120237041090561 = true := by decide +kernel
theorem cleanV_idem (x : Vlu) : cleanV (cleanV x) = cleanV x := by
  have key : ∀ y : Vlu, y.1 = x.1 → (∀ b, x.2.2.2.1 = b → nanB y.2.2.2.1 = false → y.2.2.2.1 = y.2.2.2.1) → True := fun _ _ _ => trivial
  cases h1 : (x.1 == 1) with
  | true =>
    have e : cleanV x = (x.1, x.2.1, 0, 0, ByteArray.empty, ()) := by unfold cleanV; rw [h1]; rfl
    rw [e]; unfold cleanV; dsimp only; rw [h1]; rfl
  | false =>
  cases h2 : (x.1 == 2) with
  | true =>
    have e : cleanV x = (x.1, false, x.2.2.1, 0, ByteArray.empty, ()) := by unfold cleanV; rw [h1, h2]; rfl
    rw [e]; unfold cleanV; dsimp only; rw [h1, h2]; rfl
  | false =>
  cases h3 : (x.1 == 3) with
  | true =>
    cases hn : nanB x.2.2.2.1 with
    | true =>
      have e : cleanV x = (x.1, false, 0, 9221120237041090561, ByteArray.empty, ()) := by unfold cleanV; rw [h1, h2, h3, hn]; rfl
      rw [e]; unfold cleanV; dsimp only; rw [h1, h2, h3, nan_quiet]; rfl
    | false =>
      have e : cleanV x = (x.1, false, 0, x.2.2.2.1, ByteArray.empty, ()) := by unfold cleanV; rw [h1, h2, h3, hn]; rfl
      rw [e]; unfold cleanV; dsimp only; rw [h1, h2, h3, hn]; rfl
  | false =>
  cases h4 : (x.1 == 4) with
  | true =>
    have e : cleanV x = (x.1, false, 0, 0, x.2.2.2.2.1, ()) := by unfold cleanV; rw [h1, h2, h3, h4]; rfl
    rw [e]; unfold cleanV; dsimp only; rw [h1, h2, h3, h4]; rfl
  | false =>
    have e : cleanV x = (x.1, false, 0, 0, ByteArray.empty, ()) := by unfold cleanV; rw [h1, h2, h3, h4]; rfl
    rw [e]; unfold cleanV; dsimp only; rw [h1, h2, h3, h4]; rfl
theorem clean_vok {x : Vlu} (h : VOk x) : VOk (cleanV x) := by
  obtain ⟨a1, a2, a3, a4⟩ := h
  unfold cleanV
  cases (x.1 == 1) <;> cases (x.1 == 2) <;> cases (x.1 == 3) <;> cases (x.1 == 4) <;> cases (nanB x.2.2.2.1) <;> constructor <;> dsimp only [cond] <;> first | exact a1 | exact a2 | exact a3 | exact a4 | decide
theorem clean_text (x : Vlu) : (cleanV x).2.2.2.2.1.size ≤ x.2.2.2.2.1.size := by
  have h0 : ByteArray.empty.size = 0 := rfl
  unfold cleanV
  cases (x.1 == 1) <;> cases (x.1 == 2) <;> cases (x.1 == 3) <;> cases (x.1 == 4) <;> cases (nanB x.2.2.2.1) <;> dsimp only [cond] <;> first | exact Nat.le_refl _ | (rw [h0]; exact Nat.zero_le _)
theorem tidy_mem {l : List Elm} {f : Elm} (h : f ∈ tidyF l) : ∃ g ∈ l, cleanF g = f := List.mem_map.1 ((srtV_ok ordE (l.map cleanF)).2.1.mem ordE h)
theorem mem_tidy {l : List Elm} {g : Elm} (h : g ∈ l) : cleanF g ∈ tidyF l := (srtV_ok ordE (l.map cleanF)).2.1.symm.mem ordE (List.mem_map.2 ⟨g, h, rfl⟩)
theorem cleanF_idem (f : Elm) : cleanF (cleanF f) = cleanF f := by
  show (f.1, cleanV (cleanV f.2.1), ()) = (f.1, cleanV f.2.1, ())
  rw [cleanV_idem]
theorem tidyF_idem (l : List Elm) : tidyF (tidyF l) = tidyF l := by
  have e : (tidyF l).map cleanF = tidyF l := by
    conv => rhs; rw [← List.map_id (tidyF l)]
    apply List.map_congr_left
    intro f hf
    obtain ⟨g, _, rfl⟩ := tidy_mem hf
    exact cleanF_idem g
  show srtV elt ((tidyF l).map cleanF) = _
  rw [e]
  exact srtV_self ordE (srtV_ok ordE _).1
theorem tidyV_idem (p : Pap) : tidyV (tidyV p) = tidyV p := by
  show (p.1, p.2.1, tidyF (tidyF p.2.2.1), ()) = (p.1, p.2.1, tidyF p.2.2.1, ())
  rw [tidyF_idem]

/-! ## What may be -/
theorem fchk_iff {r : Int} : ∀ (l : List Elm), fchkV r l = 0 ↔ (∀ f ∈ l, wordB f.1 16 = true ∧ rightV (cleanV f.2.1) = true) ∧ r = 0
  | [] => ⟨fun h => ⟨fun f hf => (by cases hf), h⟩, fun h => h.2⟩
  | f :: l => by
    unfold fchkV
    cases h1 : wordB f.1 16 with
    | false => exact ⟨fun h => (by cases h), fun h => by have := (h.1 f (by simp)).1; rw [h1] at this; cases this⟩
    | true =>
    cases h2 : rightV (cleanV f.2.1) with
    | false => exact ⟨fun h => (by cases h), fun h => by have := (h.1 f (by simp)).2; rw [h2] at this; cases this⟩
    | true =>
    refine Iff.trans (show fchkV r l = 0 ↔ _ from fchk_iff l) ⟨fun h => ⟨fun g hg => ?_, h.2⟩, fun h => ⟨fun g hg => h.1 g (List.mem_cons_of_mem _ hg), h.2⟩⟩
    rcases List.mem_cons.1 hg with e | hg
    · subst e; exact ⟨h1, h2⟩
    · exact h.1 g hg
theorem ndV_iff (l : List Elm) : ndV l = 0 ↔ ND l := by
  unfold ndV
  split
  · rename_i h; exact ⟨fun _ => h, fun _ => rfl⟩
  · rename_i h; exact ⟨fun e => (by cases e), fun e => absurd e h⟩
structure May (p : Pap) : Prop where
  id : wordB p.1 24 = true
  c0 : 0 ≤ p.2.1
  c8 : p.2.1 < 8
  l1 : 1 ≤ p.2.2.1.length
  l12 : p.2.2.1.length ≤ 12
  f : ∀ f ∈ p.2.2.1, wordB f.1 16 = true ∧ rightV (cleanV f.2.1) = true
  nd : ND p.2.2.1
theorem check_iff (p : Pap) : checkV p = 0 ↔ May p := by
  unfold checkV
  cases h1 : wordB p.1 24 with
  | false => exact ⟨fun h => (by cases h), fun h => by have := h.id; rw [h1] at this; cases this⟩
  | true =>
  by_cases h2 : p.2.1 < 0
  · rw [decide_eq_true h2]; exact ⟨fun h => (by cases h), fun h => by have := h.c0; omega⟩
  by_cases h3 : p.2.1 ≥ 8
  · rw [decide_eq_false h2, decide_eq_true h3]; exact ⟨fun h => (by cases h), fun h => by have := h.c8; omega⟩
  by_cases h4 : (p.2.2.1.length : Int) < 1
  · rw [decide_eq_false h2, decide_eq_false h3, decide_eq_true h4]; exact ⟨fun h => (by cases h), fun h => by have := h.l1; omega⟩
  by_cases h5 : (p.2.2.1.length : Int) > 12
  · rw [decide_eq_false h2, decide_eq_false h3, decide_eq_false h4, decide_eq_true h5]; exact ⟨fun h => (by cases h), fun h => by have := h.l12; omega⟩
  rw [decide_eq_false h2, decide_eq_false h3, decide_eq_false h4, decide_eq_false h5]
  refine Iff.trans (show fchkV (ndV p.2.2.1) p.2.2.1 = 0 ↔ _ from fchk_iff _) ⟨fun h => ⟨h1, by omega, by omega, by omega, by omega, h.1, (ndV_iff _).1 h.2⟩, fun h => ⟨h.f, (ndV_iff _).2 h.nd⟩⟩
theorem may_tidy {p : Pap} (h : May p) : May (tidyV p) := by
  refine ⟨h.id, h.c0, h.c8, ?_, ?_, fun f hf => ?_, (nd_tidy _).2 h.nd⟩
  · show 1 ≤ (tidyF p.2.2.1).length; rw [tidyF_len]; exact h.l1
  · show (tidyF p.2.2.1).length ≤ 12; rw [tidyF_len]; exact h.l12
  · obtain ⟨g, hg, rfl⟩ := tidy_mem hf
    obtain ⟨a1, a2⟩ := h.f g hg
    exact ⟨a1, by show rightV (cleanV (cleanV g.2.1)) = true; rw [cleanV_idem]; exact a2⟩

/-! ## As bytes -/
def fldB (f : Elm) : ByteArray := textB f.1 ++ textB (valB f.2.1)
def fldsB : List Elm → ByteArray
  | [] => ⟨#[]⟩
  | f :: l => fldB f ++ fldsB l
def papB (p : Pap) : ByteArray := textB p.1 ++ (numI p.2.1 ++ (numI (p.2.2.1.length : Int) ++ fldsB p.2.2.1))
/-- A field that may be, as it is laid. -/
structure FRight (f : Elm) : Prop where
  n : f.1.size ≤ 16
  r : rightV f.2.1 = true
  v : VOk f.2.1
structure PRight (p : Pap) : Prop where
  id : p.1.size ≤ 24
  c0 : 0 ≤ p.2.1
  c8 : p.2.1 < 8
  l12 : p.2.2.1.length ≤ 12
  f : ∀ f ∈ p.2.2.1, FRight f
theorem may_right {p : Pap} (h : May p) (hv : ∀ f ∈ p.2.2.1, VOk f.2.1) : PRight (tidyV p) := by
  refine ⟨by have := (wordB_size h.id).1; show p.1.size ≤ 24; omega, h.c0, h.c8, (may_tidy h).l12, fun f hf => ?_⟩
  obtain ⟨g, hg, rfl⟩ := tidy_mem hf
  obtain ⟨a1, a2⟩ := h.f g hg
  exact ⟨by have := (wordB_size a1).1; show g.1.size ≤ 16; omega, a2, clean_vok (hv g hg)⟩
theorem fldB_size {f : Elm} (h : FRight f) : (fldB f).size ≤ 300 := by
  have h1 := textB_size (t := f.1) (by have := h.n; omega)
  have h2 := valB_size h.r
  have h3 := textB_size (t := valB f.2.1) (by omega)
  have := h.n
  unfold fldB; rw [ByteArray.size_append]; omega
theorem pbytes_loop (l : List Elm) (hl : l.length ≤ 12) (hf : ∀ f ∈ l, FRight f) : ∀ (m i : Nat), i + m = l.length → ∀ s : ByteArray, s.size ≤ 1000 + 300 * i →
    Runs (fun k => paper_Bytes.l0 k l (l.length : Int) (i : Int) s false) ((s ++ fldsB (l.drop i), 0, ()), ())
  | 0, i, hi, s, hs => by
    rw [List.drop_of_length_le (by omega)]
    refine Runs.step (fun k => rfl) (Runs.no (by apply decide_eq_false; omega) (Runs.bind (v := ((s, true, ()), ())) (Runs.step (fun k => rfl) Runs.some) (Runs.some' ?_)))
    show ((s, 0, ()), ()) = ((s ++ (⟨#[]⟩ : ByteArray), 0, ()), ())
    rw [app_nil]
  | m + 1, i, hi, s, hs => by
    have hlt : i < l.length := by omega
    have hfo := hf _ (List.getElem_mem hlt)
    have hsz := fldB_size hfo
    have h2 := valB_size hfo.r
    have hn := hfo.n
    have h1 := textB_size (t := l[i].1) (by omega)
    refine Runs.step (fun k => rfl) (Runs.yes (by apply decide_eq_true; omega) (Runs.opt (rdo_at hlt) (Runs.bind (w_text (t := l[i].1) (s := s) (by omega) (by omega)) (Runs.bind (valbytes_ok hfo.r hfo.v) (Runs.bind (w_text (t := valB l[i].2.1) (s := s ++ textB l[i].1) (by omega) (by rw [ByteArray.size_append]; omega)) ?_)))))
    rw [wnat (by omega), List.drop_eq_getElem_cons hlt]
    have := pbytes_loop l hl hf m (i + 1) (by omega) (s ++ fldB l[i]) (by rw [ByteArray.size_append]; omega)
    dsimp only
    unfold fldsB
    rw [← bapp_assoc]
    unfold fldB at this ⊢
    rw [← bapp_assoc] at this ⊢
    exact this
theorem numI_ok {x : Int} (h0 : 0 ≤ x) (h1 : x < 100) : (numI x).size ≤ 8 := numI_size (by omega)
theorem pbytes_ok (p : Pap) (hp : POk p) (hv : ∀ f ∈ p.2.2.1, VOk f.2.1) : TP (fun k => paper_Bytes.f k p) (fun v => (checkV p ≠ 0 ∧ v.1 = (⟨#[]⟩, checkV p, ())) ∨ (checkV p = 0 ∧ v.1 = (papB (tidyV p), 0, ()))) := by
  refine TP.step (fun k => rfl) (TP.bind (check_ok p hp) fun v hc => ?_)
  obtain ⟨⟨c, ⟨⟩⟩, ⟨⟩⟩ := v
  have hc : c = checkV p := hc
  subst hc
  refine TP.neI (fun h => TP.some (.inl ⟨h, rfl⟩)) fun h => ?_
  have hm := (check_iff p).1 h
  have hr := may_right hm hv
  refine TP.bind (tidy_ok p hp.2.1) fun v ht => ?_
  obtain ⟨⟨t, ⟨⟩⟩, ⟨⟩⟩ := v
  have ht : t = tidyV p := ht
  subst ht
  have hid := hr.id
  have hl := hr.l12
  generalize tidyV p = q at hr hid hl ⊢
  have h1 := textB_size (t := q.1) (by omega)
  have h2 := numI_ok (x := q.2.1) hr.c0 (by have := hr.c8; omega)
  have h3 := numI_ok (x := (q.2.2.1.length : Int)) (by omega) (by omega)
  have e0 : (ByteArray.empty).size = 0 := rfl
  refine TP.bindR (w_text (t := q.1) (s := ByteArray.empty) (by omega) (by omega)) ?_
  rw [nil_app]
  refine TP.bindR (w_num (s := textB q.1) hr.c0 (by have := hr.c8; omega) (by omega)) (TP.bindR (w_num (x := (q.2.2.1.length : Int)) (s := textB q.1 ++ numI q.2.1) (by omega) (by omega) (by rw [ByteArray.size_append]; omega)) ?_)
  have := pbytes_loop q.2.2.1 hl hr.f _ 0 (Nat.zero_add _) (textB q.1 ++ numI q.2.1 ++ numI (q.2.2.1.length : Int)) (by rw [ByteArray.size_append, ByteArray.size_append]; omega)
  rw [List.drop_zero] at this
  have e : textB q.1 ++ numI q.2.1 ++ numI (q.2.2.1.length : Int) ++ fldsB q.2.2.1 = papB q := by unfold papB; rw [bapp_assoc, bapp_assoc]
  rw [e] at this
  exact Runs.tp this (.inr ⟨h, rfl⟩)
theorem lbytes_loop (x1 : ByteArray) (x2 : Int) (l : List Elm) (hl : l.length ≤ 12) (hf : ∀ f ∈ l, FRight f) : ∀ (m i : Nat), i + m = l.length → ∀ s : ByteArray, s.size ≤ 1000 + 300 * i →
    Runs (fun k => chartularylaw05_bytes.l0 k s (i : Int) x1 x2 l) ((s ++ fldsB (l.drop i), ()), ())
  | 0, i, hi, s, hs => by
    rw [List.drop_of_length_le (by omega)]
    refine Runs.step (fun k => rfl) (Runs.no (by apply decide_eq_false; omega) (Runs.some' ?_))
    show ((s, ()), ()) = ((s ++ (⟨#[]⟩ : ByteArray), ()), ())
    rw [app_nil]
  | m + 1, i, hi, s, hs => by
    have hlt : i < l.length := by omega
    have hfo := hf _ (List.getElem_mem hlt)
    have hsz := fldB_size hfo
    have h2 := valB_size hfo.r
    have hn := hfo.n
    have h1 := textB_size (t := l[i].1) (by omega)
    have h3 := textB_size (t := valB l[i].2.1) (by omega)
    have o1 : Runs (fun k => octet_Text.f k l[i].1) ((textB l[i].1, ()), ()) := octet_text (by omega)
    have o2 : Runs (fun k => octet_Text.f k (valB l[i].2.1)) ((textB (valB l[i].2.1), ()), ()) := octet_text (by omega)
    refine Runs.step (fun k => rfl) (Runs.yes (by apply decide_eq_true; omega) (Runs.opt (rdo_at hlt) (Runs.bind o1 (Runs.ck (by apply decide_eq_true; dsimp only; omega) (Runs.opt (rdo_at hlt) (Runs.bind (valbytes_ok hfo.r hfo.v) (Runs.bind o2 (Runs.ck (by apply decide_eq_true; dsimp only; rw [ByteArray.size_append]; omega) ?_))))))))
    rw [wnat (by omega), List.drop_eq_getElem_cons hlt]
    have := lbytes_loop x1 x2 l hl hf m (i + 1) (by omega) (s ++ fldB l[i]) (by rw [ByteArray.size_append]; omega)
    dsimp only
    unfold fldsB
    rw [← bapp_assoc]
    unfold fldB at this ⊢
    rw [← bapp_assoc] at this ⊢
    exact this
theorem lbytes_ok (q : Pap) (hr : PRight q) : Runs (fun k => chartularylaw05_bytes.f k q) ((papB q, ()), ()) := by
  have hid := hr.id
  have hl := hr.l12
  have h1 := textB_size (t := q.1) (by omega)
  have h2 := numI_ok (x := q.2.1) hr.c0 (by have := hr.c8; omega)
  have h3 := numI_ok (x := (q.2.2.1.length : Int)) (by omega) (by omega)
  have o1 : Runs (fun k => octet_Text.f k q.1) ((textB q.1, ()), ()) := octet_text (by omega)
  have o2 : Runs (fun k => octet_Num.f k q.2.1) ((numI q.2.1, ()), ()) := octet_num hr.c0 (by have := hr.c8; omega)
  have o3 : Runs (fun k => octet_Num.f k (q.2.2.1.length : Int)) ((numI (q.2.2.1.length : Int), ()), ()) := octet_num (by omega) (by omega)
  refine Runs.step (fun k => rfl) (Runs.bind o1 (Runs.bind o2 (Runs.ck (by apply decide_eq_true; dsimp only; omega) (Runs.bind o3 (Runs.ck (by apply decide_eq_true; dsimp only; rw [ByteArray.size_append]; omega) ?_)))))
  have := lbytes_loop q.1 q.2.1 q.2.2.1 hl hr.f _ 0 (Nat.zero_add _) (textB q.1 ++ numI q.2.1 ++ numI (q.2.2.1.length : Int)) (by rw [ByteArray.size_append, ByteArray.size_append]; omega)
  rw [List.drop_zero] at this
  have e : textB q.1 ++ numI q.2.1 ++ numI (q.2.2.1.length : Int) ++ fldsB q.2.2.1 = papB q := by unfold papB; rw [bapp_assoc, bapp_assoc]
  rw [e] at this
  exact this
end Go.Proofs.Ytabdmnoejoiboaa.Pure
