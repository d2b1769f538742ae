/- Plain laws: what the statements of layer event use: clean, same, few, awake. -/
import Derived.Test.YthedgoefiffogaaPReadC
import Derived.Test.YthedgoefiffogaaPBytes2
namespace Go.Proofs.Ythedgoefiffogaa.Pure
open Go Go.Proofs.Ythedgoefiffogaa.E Go.Proofs.Ythedgoefiffogaa.Eng
set_option linter.unusedVariables false
set_option linter.unusedSimpArgs false

theorem awake_ok : Runs (fun k => chartularylaw14_awake.f k) ((true, ()), ()) := by
  refine ⟨14, fun k hk => ?_⟩
  obtain ⟨k, rfl⟩ : ∃ q, k = q + 14 := ⟨k - 14, by omega⟩
  kernel_rfl
theorem clean_kind4 (v : Event) (t : Bool) (ht : t = decide (v.1 = 4 ∨ v.1 = 5)) (h1 : ¬ v.1 = 1) (h2 : ¬ v.1 = 2) (h3 : ¬ v.1 = 3) (z : Event) :
    Runs (fun k => chartularyref14_Clean.j0 k v.1 t v.1 v.2.1 v.2.2.1 v.2.2.2.1 v.2.2.2.2.1 v.2.2.2.2.2.1 v.2.2.2.2.2.2.1 z.1 z.2.1 z.2.2.1 z.2.2.2.1 z.2.2.2.2.1 z.2.2.2.2.2.1 z.2.2.2.2.2.2.1) ((cleanV v, ()), ()) := by
  unfold cleanV
  rw [if_neg h1, if_neg h2, if_neg h3]
  refine Runs.step (fun k => rfl) (Runs.cond (fun g => ?_) (fun g => ?_))
  · rw [ht] at g
    rw [if_pos (by simpa using g)]; exact Runs.some
  · rw [ht] at g
    rw [if_neg (by simpa using g)]
    refine Runs.cond (fun g6 => ?_) (fun g6 => ?_)
    · rw [if_pos (by simpa using g6)]; exact Runs.some
    · rw [if_neg (by simpa using g6)]
      refine Runs.cond (fun g7 => ?_) (fun g7 => ?_)
      · rw [if_pos (by simpa using g7)]; exact Runs.some
      · rw [if_neg (by simpa using g7)]; exact Runs.some
theorem clean_ref (v : Event) : Runs (fun k => chartularyref14_Clean.f k v) ((cleanV v, ()), ()) := by
  refine Runs.step (fun k => rfl) (Runs.cond (fun g1 => ?_) (fun g1 => ?_))
  · have g1 : v.1 = 1 := by simpa using g1
    refine Runs.some' ?_
    unfold cleanV; rw [if_pos g1]; rfl
  have g1 : ¬ v.1 = 1 := by simpa using g1
  refine Runs.cond (fun g2 => ?_) (fun g2 => ?_)
  · have g2 : v.1 = 2 := by simpa using g2
    refine Runs.some' ?_
    unfold cleanV; rw [if_neg g1, if_pos g2]; rfl
  have g2 : ¬ v.1 = 2 := by simpa using g2
  refine Runs.cond (fun g3 => ?_) (fun g3 => ?_)
  · have g3 : v.1 = 3 := by simpa using g3
    refine Runs.some' ?_
    unfold cleanV; rw [if_neg g1, if_neg g2, if_pos g3]; rfl
  have g3 : ¬ v.1 = 3 := by simpa using g3
  refine Runs.cond (fun g4 => ?_) (fun g4 => ?_)
  · have g4' : v.1 = 4 := by simpa using g4
    exact clean_kind4 v _ (by rw [g4']; rfl) g1 g2 g3 noEvent
  · have g4' : ¬ v.1 = 4 := by simpa using g4
    refine clean_kind4 v _ ?_ g1 g2 g3 noEvent
    by_cases g5 : v.1 = 5
    · rw [g5]; rfl
    · rw [decide_eq_false (by omega)]; simpa using g5
theorem seqB_eq (a b : ByteArray) : seqB a b = decide (a = b) := by
  have e : seqB a b = (a.data == b.data) := by cases a; cases b; rfl
  rw [e]
  by_cases h : a = b
  · subst h; simp
  · rw [decide_eq_false h]
    have : a.data ≠ b.data := fun e => h (by cases a; cases b; simp only at e; rw [e])
    simpa using this
noncomputable instance entryDec (x y : Entry) : Decidable (x = y) := Classical.propDecidable _
noncomputable instance eventDec (x y : Event) : Decidable (x = y) := Classical.propDecidable _
theorem slip_eq (x y : Slip) : (seqB x.1 y.1 && (seqB x.2.1 y.2.1 && (seqB x.2.2.1 y.2.2.1 && (x.2.2.2.1 == y.2.2.2.1 && true)))) = decide (x = y) := by
  obtain ⟨a, b, c, d, ⟨⟩⟩ := x
  obtain ⟨a', b', c', d', ⟨⟩⟩ := y
  simp only [seqB_eq]
  rw [Bool.eq_iff_iff]
  simp only [Bool.and_eq_true, decide_eq_true_eq, beq_iff_eq, and_true, Prod.mk.injEq]
theorem cons_dec {α : Type} [DecidableEq α] (x y : α) (l l' : List α) : (decide (x = y) && decide (l = l')) = decide (x :: l = y :: l') := by
  rw [Bool.eq_iff_iff]; simp
theorem same_l1 (x y : Entry) (hl : x.2.2.2.2.2.2.1.length = y.2.2.2.2.2.2.1.length) (hb : x.2.2.2.2.2.2.1.length ≤ 1000000000) : ∀ (m i : Nat), i + m = x.2.2.2.2.2.2.1.length →
    Runs (fun k => chartularyref14_SameEntry.l1 k (i : Int) x.1 x.2.1 x.2.2.1 x.2.2.2.1 x.2.2.2.2.1 x.2.2.2.2.2.1 x.2.2.2.2.2.2.1 y.1 y.2.1 y.2.2.1 y.2.2.2.1 y.2.2.2.2.1 y.2.2.2.2.2.1 y.2.2.2.2.2.2.1) ((decide (x.2.2.2.2.2.2.1.drop i = y.2.2.2.2.2.2.1.drop i), ()), ()) := by
  intro m
  induction m with
  | zero =>
    intro i hi
    rw [List.drop_of_length_le (by omega), List.drop_of_length_le (by omega)]
    exact Runs.step (fun k => rfl) (Runs.no (by apply decide_eq_false; omega) Runs.some)
  | succ m ih =>
    intro i hi
    have hlt : i < x.2.2.2.2.2.2.1.length := by omega
    have hlt2 : i < y.2.2.2.2.2.2.1.length := by omega
    rw [List.drop_eq_getElem_cons hlt, List.drop_eq_getElem_cons hlt2, ← cons_dec]
    refine Runs.step (fun k => rfl) (Runs.yes (by apply decide_eq_true; omega) (Runs.opt (rdo_at hlt) (Runs.opt (rdo_at hlt2) ?_)))
    rw [beq_text]
    refine Runs.nand' Runs.some (fun _ => ?_)
    rw [wrap_i64 (n := (i : Int) + 1) (by omega) (by omega)]
    exact ih (i + 1) (by omega)
theorem same_l0 (x y : Entry) (hs : x.2.2.2.2.1.length = y.2.2.2.2.1.length) (hsb : x.2.2.2.2.1.length ≤ 1000000000) (hl : x.2.2.2.2.2.2.1.length = y.2.2.2.2.2.2.1.length) (hb : x.2.2.2.2.2.2.1.length ≤ 1000000000) : ∀ (m i : Nat), i + m = x.2.2.2.2.1.length →
    Runs (fun k => chartularyref14_SameEntry.l0 k (i : Int) x.1 x.2.1 x.2.2.1 x.2.2.2.1 x.2.2.2.2.1 x.2.2.2.2.2.1 x.2.2.2.2.2.2.1 y.1 y.2.1 y.2.2.1 y.2.2.2.1 y.2.2.2.2.1 y.2.2.2.2.2.1 y.2.2.2.2.2.2.1) ((decide (x.2.2.2.2.1.drop i = y.2.2.2.2.1.drop i) && decide (x.2.2.2.2.2.2.1 = y.2.2.2.2.2.2.1), ()), ()) := by
  have base := same_l1 x y hl hb _ 0 (Nat.zero_add _)
  rw [List.drop_zero, List.drop_zero] at base
  intro m
  induction m with
  | zero =>
    intro i hi
    rw [List.drop_of_length_le (by omega), List.drop_of_length_le (by omega)]
    exact Runs.step (fun k => rfl) (Runs.no (by apply decide_eq_false; omega) (base.vbool (by simp)))
  | succ m ih =>
    intro i hi
    have hlt : i < x.2.2.2.2.1.length := by omega
    have hlt2 : i < y.2.2.2.2.1.length := by omega
    rw [List.drop_eq_getElem_cons hlt, List.drop_eq_getElem_cons hlt2, ← cons_dec, Bool.and_assoc]
    refine Runs.step (fun k => rfl) (Runs.yes (by apply decide_eq_true; omega) (Runs.opt (rdo_at hlt) (Runs.opt (rdo_at hlt2) ?_)))
    rw [slip_eq]
    refine Runs.nand' Runs.some (fun _ => ?_)
    rw [wrap_i64 (n := (i : Int) + 1) (by omega) (by omega)]
    exact ih (i + 1) (by omega)
theorem sameEntry_ok (x y : Entry) (hx : EntryOk x) : Runs (fun k => chartularyref14_SameEntry.f k x y) ((decide (x = y), ()), ()) := by
  have no : ∀ {f : Nat → Option (V1 Bool)}, x ≠ y → Runs f ((false, ()), ()) → Runs f ((decide (x = y), ()), ()) := fun h hr => hr.vbool (decide_eq_false h).symm
  refine Runs.step (fun k => rfl) (Runs.cond (fun h => no ?_ Runs.some) (fun h1 => ?_))
  · rw [beq_text] at h; intro e; subst e; simp at h
  rw [beq_text] at h1
  refine Runs.cond (fun h => no ?_ Runs.some) (fun h2 => ?_)
  · intro e; subst e; simp at h
  refine Runs.cond (fun h => no ?_ Runs.some) (fun h3 => ?_)
  · intro e; subst e; simp at h
  refine Runs.cond (fun h => no ?_ Runs.some) (fun h4 => ?_)
  · intro e; subst e; simp at h
  refine Runs.cond (fun h => no ?_ Runs.some) (fun h5 => ?_)
  · intro e; subst e; simp at h
  refine Runs.cond (fun h => no ?_ Runs.some) (fun h6 => ?_)
  · intro e; subst e; simp at h
  refine Runs.cond (fun h => no ?_ Runs.some) (fun h7 => ?_)
  · intro e; subst e; simp at h
  have h6 : x.2.2.2.2.1.length = y.2.2.2.2.1.length := by simp at h6; omega
  have h7 : x.2.2.2.2.2.2.1.length = y.2.2.2.2.2.2.1.length := by simp at h7; omega
  have main := same_l0 x y h6 hx.l h7 hx.h _ 0 (Nat.zero_add _)
  rw [List.drop_zero, List.drop_zero] at main
  refine Runs.step (fun k => rfl) (main.vbool ?_)
  obtain ⟨a, b, c, d, l, g, t, ⟨⟩⟩ := x
  obtain ⟨a', b', c', d', l', g', t', ⟨⟩⟩ := y
  simp only [Bool.not_eq_false', decide_eq_true_eq, bne_eq_false_iff_eq, beq_iff_eq] at h1 h2 h3 h4 h5
  rw [Bool.eq_iff_iff]
  simp only [Bool.and_eq_true, decide_eq_true_eq, Prod.mk.injEq, h1, h2, h3, h4, h5, true_and, and_true]
theorem same_ok (x y : Event) (hx : EventOk x) : Runs (fun k => chartularyref14_Same.f k x y) ((decide (x = y), ()), ()) := by
  have main := sameEntry_ok x.2.1 y.2.1 hx.e
  refine (Runs.step (fun k => rfl) (Runs.and (v := (x.2.2.1 == y.2.2.1 && (x.2.2.2.1 == y.2.2.2.1 && (x.2.2.2.2.1.toList == y.2.2.2.2.1.toList && ((x.2.2.2.2.2.1.1 == y.2.2.2.2.2.1.1 && (seqB x.2.2.2.2.2.1.2.1 y.2.2.2.2.2.1.2.1 && true)) && (x.2.2.2.2.2.2.1 == y.2.2.2.2.2.2.1 && decide (x.2.1 = y.2.1))))))) (fun _ => Runs.and (fun _ => Runs.and (fun _ => Runs.and (fun _ => Runs.and (fun _ => Runs.and (fun _ => Runs.bind main Runs.some) Runs.some) Runs.some) Runs.some) Runs.some) Runs.some) Runs.some)).vbool ?_
  obtain ⟨a, b, c, d, n, ⟨p, q, ⟨⟩⟩, t, ⟨⟩⟩ := x
  obtain ⟨a', b', c', d', n', ⟨p', q', ⟨⟩⟩, t', ⟨⟩⟩ := y
  rw [Bool.eq_iff_iff]
  simp only [beq_text, seqB_eq, Bool.and_eq_true, decide_eq_true_eq, beq_iff_eq, Prod.mk.injEq, and_true]
  constructor
  · rintro ⟨h1, h2, h3, h4, ⟨h5, h6⟩, h7, h8⟩; exact ⟨h1, h8, h2, h3, h4, ⟨h5, h6⟩, h7⟩
  · rintro ⟨h1, h8, h2, h3, h4, ⟨h5, h6⟩, h7⟩; exact ⟨h1, h2, h3, h4, ⟨h5, h6⟩, h7, h8⟩

def cutB (a : ByteArray) : ByteArray := if 300 < a.size then a.extract 0 300 else a
theorem cutB_size (a : ByteArray) : (cutB a).size ≤ 300 := by
  unfold cutB
  split
  · rw [ByteArray.size_extract]; omega
  · omega
theorem cut_ok (a : ByteArray) : Runs (fun k => chartularylaw14_cut.f k a) ((cutB a, ()), ()) := by
  unfold cutB
  refine Runs.step (fun k => rfl) (Runs.dec (fun h => Runs.ck (by simp; omega) (Runs.some' ?_)) (fun h => Runs.some' ?_))
  · rw [if_pos (by omega)]; rfl
  · rw [if_neg (by omega)]
def cutH (l : List ByteArray) : List ByteArray := (l.take 20).map cutB
def cutS (s : Slip) : Slip := (cutB s.1, cutB s.2.1, cutB s.2.2.1, s.2.2.2.1, ())
def cutSs (l : List Slip) : List Slip := (l.take 20).map cutS
theorem few_l1 (id : ByteArray) (a b c : Int) (l : List Slip) (gone : Bool) (h : List ByteArray) (y0 : ByteArray) (y1 y2 y3 : Int) (y4 : List Slip) (y5 : Bool) (y6 : List ByteArray) (id' : ByteArray) (a' b' c' : Int) (l' : List Slip) (gone' : Bool) :
    ∀ (m i : Nat) (acc : List ByteArray), min h.length 20 - i = m → i ≤ h.length → i ≤ 20 → acc.length = i →
    Runs (fun k => chartularylaw14_FewEntry.l1 k (i : Int) id a b c l gone h y0 y1 y2 y3 y4 y5 y6 id' a' b' c' l' gone' acc) (((id', a', b', c', l', gone', acc ++ ((h.take 20).drop i).map cutB, ()), ()), ()) := by
  intro m
  induction m with
  | zero =>
    intro i acc hm hi h30 ha
    rw [List.drop_of_length_le (by rw [List.length_take]; omega), List.map_nil, List.append_nil]
    refine Runs.step (fun k => rfl) (Runs.dec (fun hh => Runs.no (by apply decide_eq_false; omega) Runs.some) (fun hh => Runs.some))
  | succ m ih =>
    intro i acc hm hi h30 ha
    have hlt : i < h.length := by omega
    have nx := ih (i + 1) (acc ++ [cutB h[i]]) (by omega) (by omega) (by omega) (by rw [List.length_append, ha]; rfl)
    have h2 : i < (h.take 20).length := by rw [List.length_take]; omega
    rw [List.drop_eq_getElem_cons h2, List.map_cons, List.getElem_take]
    rw [List.append_assoc, show ((i + 1 : Nat) : Int) = IntKind.wrap .i64 ((i : Int) + 1) from (wrap_i64 (by omega) (by omega)).symm] at nx
    exact Runs.step (fun k => rfl) (Runs.yes (by apply decide_eq_true; omega) (Runs.yes (by apply decide_eq_true; omega) (Runs.opt (rdo_at hlt) (Runs.bind (cut_ok _) (Runs.ck (by apply decide_eq_true; simp; omega) nx)))))
theorem few_l0 (id : ByteArray) (a b c : Int) (l : List Slip) (gone : Bool) (h : List ByteArray) (y0 : ByteArray) (y1 y2 y3 : Int) (y4 : List Slip) (y5 : Bool) (y6 : List ByteArray) (id' : ByteArray) (a' b' c' : Int) (gone' : Bool) :
    ∀ (m i : Nat) (acc : List Slip), min l.length 20 - i = m → i ≤ l.length → i ≤ 20 → acc.length = i →
    Runs (fun k => chartularylaw14_FewEntry.l0 k (i : Int) id a b c l gone h y0 y1 y2 y3 y4 y5 y6 id' a' b' c' acc gone' []) (((id', a', b', c', acc ++ ((l.take 20).drop i).map cutS, gone', cutH h, ()), ()), ()) := by
  intro m
  induction m with
  | zero =>
    intro i acc hm hi h30 ha
    have key := few_l1 id a b c l gone h y0 y1 y2 y3 y4 y5 y6 id' a' b' c' acc gone' (min h.length 20) 0 [] (by omega) (by omega) (by omega) rfl
    rw [List.drop_zero, List.nil_append] at key
    rw [List.drop_of_length_le (by rw [List.length_take]; omega), List.map_nil, List.append_nil]
    exact Runs.step (fun k => rfl) (Runs.dec (fun hh => Runs.no (by apply decide_eq_false; omega) key) (fun hh => key))
  | succ m ih =>
    intro i acc hm hi h30 ha
    have hlt : i < l.length := by omega
    have nx := ih (i + 1) (acc ++ [cutS l[i]]) (by omega) (by omega) (by omega) (by rw [List.length_append, ha]; rfl)
    have h2 : i < (l.take 20).length := by rw [List.length_take]; omega
    rw [List.drop_eq_getElem_cons h2, List.map_cons, List.getElem_take]
    rw [List.append_assoc, show ((i + 1 : Nat) : Int) = IntKind.wrap .i64 ((i : Int) + 1) from (wrap_i64 (by omega) (by omega)).symm] at nx
    exact Runs.step (fun k => rfl) (Runs.yes (by apply decide_eq_true; omega) (Runs.yes (by apply decide_eq_true; omega) (Runs.opt (rdo_at hlt) (Runs.bind (cut_ok _) (Runs.bind (cut_ok _) (Runs.bind (cut_ok _) (Runs.ck (by apply decide_eq_true; simp; omega) nx)))))))
def fewE (e : Entry) : Entry := (cutB e.1, e.2.1, e.2.2.1, e.2.2.2.1, cutSs e.2.2.2.2.1, e.2.2.2.2.2.1, cutH e.2.2.2.2.2.2.1, ())
def fewV (v : Event) : Event := (v.1, fewE v.2.1, v.2.2.1, v.2.2.2.1, cutB v.2.2.2.2.1, (v.2.2.2.2.2.1.1, cutB v.2.2.2.2.2.1.2.1, ()), v.2.2.2.2.2.2.1, ())
theorem few_ok (v : Event) : Runs (fun k => chartularylaw14_Few.f k v) ((fewV v, ()), ()) := by
  have key := few_l0 v.2.1.1 v.2.1.2.1 v.2.1.2.2.1 v.2.1.2.2.2.1 v.2.1.2.2.2.2.1 v.2.1.2.2.2.2.2.1 v.2.1.2.2.2.2.2.2.1 ⟨#[]⟩ 0 0 0 [] false [] (cutB v.2.1.1) v.2.1.2.1 v.2.1.2.2.1 v.2.1.2.2.2.1 v.2.1.2.2.2.2.2.1 (min v.2.1.2.2.2.2.1.length 20) 0 [] (by omega) (by omega) (by omega) rfl
  rw [List.drop_zero, List.nil_append] at key
  have he : Runs (fun k => chartularylaw14_FewEntry.f k v.2.1) ((fewE v.2.1, ()), ()) := Runs.step (fun k => rfl) (Runs.bind (cut_ok _) key)
  exact Runs.step (fun k => rfl) (Runs.bind he (Runs.bind (cut_ok _) (Runs.bind (cut_ok _) Runs.some)))
theorem few_good (v : Event) : EventOk (fewV v) := by
  refine ⟨⟨?_, ?_, fun s hs => ?_, ?_, fun t ht => ?_⟩, ?_, ?_⟩
  · have := cutB_size v.2.1.1; show (cutB v.2.1.1).size ≤ _; omega
  · show (cutSs v.2.1.2.2.2.2.1).length ≤ _; unfold cutSs; simp; omega
  · obtain ⟨y, _, rfl⟩ := List.mem_map.1 hs
    have h1 := cutB_size y.1
    have h2 := cutB_size y.2.1
    have h3 := cutB_size y.2.2.1
    unfold cutS; dsimp only; omega
  · show (cutH v.2.1.2.2.2.2.2.2.1).length ≤ _; unfold cutH; simp; omega
  · obtain ⟨y, _, rfl⟩ := List.mem_map.1 ht
    have := cutB_size y; omega
  · have := cutB_size v.2.2.2.2.1; show (cutB v.2.2.2.2.1).size ≤ _; omega
  · have := cutB_size v.2.2.2.2.2.1.2.1; show (cutB v.2.2.2.2.2.1.2.1).size ≤ _; omega
theorem event_size {v : Event} (hb : eventB v = true) : (eventL v).size ≤ 100000 := by
  have hk := eventB_kind hb
  have hkind : 1 ≤ v.1 ∧ v.1 ≤ 7 := by cases hk <;> omega
  have z := numI_size (x := v.1) (by omega)
  unfold eventL
  rw [ByteArray.size_append]
  cases hk with
  | paper g e =>
    have h := entryB_sm e
    have hid := h.id
    have ha := h.a
    have hb := h.b
    have hc := h.c
    have hl := h.l
    have hh := h.h
    have hr := h.room
    have ht : ∀ t ∈ v.2.1.2.2.2.2.2.2.1, t.size ≤ 1048576 := fun t hx => by have := h.t t hx; omega
    have z0 := textB_size (t := v.2.1.1) (by omega)
    have z1 := numI_size (x := v.2.1.2.1) (by omega)
    have z2 := numI_size (x := v.2.1.2.2.1) (by omega)
    have z3 := numI_size (x := v.2.1.2.2.2.1) (by omega)
    have z4 := flagB_size v.2.1.2.2.2.2.2.1
    have z5 := numB_size (n := v.2.1.2.2.2.2.2.2.1.length) (by omega)
    have z6 := textsB_room _ ht
    have z7 := numB_size (n := v.2.1.2.2.2.2.1.length) (by omega)
    have z8 := slipsL_size _ h.s
    rw [if_pos g]
    unfold entryL
    simp only [ByteArray.size_append]; omega
  | field g s i =>
    have z1 := numI_size (x := v.2.2.1) (by omega)
    have z2 := numI_size (x := v.2.2.2.1) (by omega)
    rw [if_neg (by omega), if_pos g, ByteArray.size_append]; omega
  | gone g s =>
    have z1 := numI_size (x := v.2.2.1) (by omega)
    rw [if_neg (by omega), if_neg (by omega), if_pos g]; omega
  | hold g s n =>
    have hw := (wordB_size n).1
    have z1 := numI_size (x := v.2.2.1) (by omega)
    have z2 := textB_size (t := v.2.2.2.2.1) (by omega)
    rw [if_neg (by omega), if_neg (by omega), if_neg (by omega), if_pos g, ByteArray.size_append]; omega
  | point g s r =>
    have z1 := numI_size (x := v.2.2.2.2.2.1.1) (by omega)
    have z2 := textB_size (t := v.2.2.2.2.2.1.2.1) (by omega)
    rw [if_neg (by omega), if_neg (by omega), if_neg (by omega), if_neg (by omega), if_pos g, ByteArray.size_append]; omega
  | clock g n =>
    have z1 := numI_size (x := v.2.2.2.2.2.2.1) (by omega)
    rw [if_neg (by omega), if_neg (by omega), if_neg (by omega), if_neg (by omega), if_neg (by omega)]; omega
/-- The bytes are those of what is clean. -/
theorem eventL_clean {v : Event} (hb : eventB v = true) : eventL (cleanV v) = eventL v := by
  have hk := eventB_kind hb
  cases hk with
  | paper g e => unfold eventL cleanV; simp only [if_pos g, g, if_true]
  | field g s i => unfold eventL cleanV; rw [if_neg (show ¬ v.1 = 1 by omega), if_neg (show ¬ v.1 = 1 by omega), if_pos g, if_pos g, g]; rfl
  | gone g s => unfold eventL cleanV; rw [if_neg (show ¬ v.1 = 1 by omega), if_neg (show ¬ v.1 = 1 by omega), if_neg (show ¬ v.1 = 2 by omega), if_neg (show ¬ v.1 = 2 by omega), if_pos g, if_pos g, g]; rfl
  | hold g s n => unfold eventL cleanV; simp only [if_neg (show ¬ v.1 = 1 by omega), if_neg (show ¬ v.1 = 2 by omega), if_neg (show ¬ v.1 = 3 by omega), if_pos g]
  | point g s r => unfold eventL cleanV; simp only [if_neg (show ¬ v.1 = 1 by omega), if_neg (show ¬ v.1 = 2 by omega), if_neg (show ¬ v.1 = 3 by omega), if_neg (show ¬ (v.1 = 4 ∨ v.1 = 5) by omega), if_pos g, g]; rfl
  | clock g n => unfold eventL cleanV; simp only [if_neg (show ¬ v.1 = 1 by omega), if_neg (show ¬ v.1 = 2 by omega), if_neg (show ¬ v.1 = 3 by omega), if_neg (show ¬ (v.1 = 4 ∨ v.1 = 5) by omega), if_neg (show ¬ v.1 = 6 by omega), if_pos g, g]; rfl
/-- Unlike events have unlike bytes. -/
theorem eventL_inj {v w : Event} (hv : EventOk v) (hw : EventOk w) (bv : eventB v = true) (bw : eventB w = true) : eventL v = eventL w ↔ cleanV v = cleanV w := by
  constructor
  · intro h
    have h1 := read_back hv bv (by have := event_size bv; omega)
    have h2 := read_back hw bw (by have := event_size bw; omega)
    rw [h] at h1
    have := h1.uniq h2
    simp only [Prod.mk.injEq] at this
    exact this.1.1
  · intro h
    rw [← eventL_clean bv, ← eventL_clean bw, h]
end Go.Proofs.Ythedgoefiffogaa.Pure
