/- Plain laws: which events may be. -/
import Derived.Test.YthedgoefiffogaaPWord
namespace Go.Proofs.Ythedgoefiffogaa.Pure
open Go Go.Proofs.Ythedgoefiffogaa.E Go.Proofs.Ythedgoefiffogaa.Eng
set_option linter.unusedVariables false
set_option linter.unusedSimpArgs false

abbrev Slip := ByteArray × ByteArray × ByteArray × Bool × Unit
abbrev Entry := ByteArray × Int × Int × Int × List Slip × Bool × List ByteArray × Unit
abbrev Event := Int × Entry × Int × Int × ByteArray × (Int × ByteArray × Unit) × Int × Unit

/-- Do names rise, and may they be? -/
noncomputable def riseB : Option ByteArray → List ByteArray → Bool
  | _, [] => true
  | p, a :: l => wordB a 16 && ((match p with | none => true | some q => Op.bytesLess q.toList a.toList) && riseB (some a) l)
theorem riseB_cons (p : Option ByteArray) (a : ByteArray) (l : List ByteArray) : riseB p (a :: l) = (wordB a 16 && ((match p with | none => true | some q => Op.bytesLess q.toList a.toList) && riseB (some a) l)) := by cases p <;> rfl
def prevOf {α : Type} (f : α → ByteArray) (l : List α) (i : Nat) : Option ByteArray := if i = 0 then none else (l[i - 1]?).map f
theorem prev_zero {α : Type} {f : α → ByteArray} {l : List α} : prevOf f l 0 = none := rfl
theorem prev_pos {α : Type} {f : α → ByteArray} {l : List α} {i : Nat} (h0 : i ≠ 0) (h : i - 1 < l.length) : prevOf f l i = some (f l[i - 1]) := by unfold prevOf; rw [if_neg h0]; simp [h]
theorem prev_succ {α : Type} {f : α → ByteArray} {l : List α} {i : Nat} (h : i < l.length) : prevOf f l (i + 1) = some (f l[i]) := by unfold prevOf; rw [if_neg (by omega)]; simp [h]
theorem rising_loop (l : List ByteArray) (hl : l.length ≤ 1000000000) (hs : ∀ a ∈ l, a.size ≤ 1000000000) : ∀ (m i : Nat), i + m = l.length →
    Runs (fun k => event_rising.l0 k l l (l.length : Int) (i : Int)) ((riseB (prevOf id l i) (l.drop i), ()), ()) := by
  intro m
  induction m with
  | zero =>
    intro i hi
    rw [List.drop_of_length_le (by omega)]
    exact Runs.step (fun k => rfl) (Runs.no (by apply decide_eq_false; omega) (Runs.some' (by simp only [riseB])))
  | succ m ih =>
    intro i hi
    have hlt : i < l.length := by omega
    have next := ih (i + 1) (by omega)
    rw [prev_succ hlt] at next
    rw [List.drop_eq_getElem_cons hlt, riseB_cons]
    refine Runs.step (fun k => rfl) (Runs.yes (by apply decide_eq_true; omega) (Runs.opt (rdo_at hlt) (Runs.bind (isName_ok _ (hs _ (List.getElem_mem hlt))) (Runs.nand' Runs.some (fun _ => ?_)))))
    rw [wrap_i64 (n := (i : Int) + 1) (by omega) (by omega)]
    rcases Nat.eq_zero_or_pos i with rfl | h0
    · rw [prev_zero]
      exact Runs.no (by rfl) next
    · have hlt2 : i - 1 < l.length := by omega
      rw [prev_pos (by omega) hlt2]
      refine Runs.yes (by apply decide_eq_true; omega) (Runs.opt (v := l[i - 1]) ?_ (Runs.nand' Runs.some (fun _ => next)))
      rw [wrap_i64 (n := (i : Int) - 1) (by omega) (by omega), show (i : Int) - 1 = ((i - 1 : Nat) : Int) by omega]
      exact rdo_at hlt2
theorem rising_ok (l : List ByteArray) (hl : l.length ≤ 1000000000) (hs : ∀ a ∈ l, a.size ≤ 1000000000) : Runs (fun k => event_rising.f k l) ((riseB none l, ()), ()) := by
  have := rising_loop l hl hs l.length 0 (Nat.zero_add _)
  exact Runs.step (fun k => rfl) this
/-- May a field as it is kept be? -/
noncomputable def slipB (s : Slip) : Bool := wordB s.1 16 && (decide (s.2.1.size = 32) && (if s.2.2.2.1 = true then decide (s.2.2.1.size = 0) else decide (16 ≤ s.2.2.1.size) && decide (s.2.2.1.size ≤ 224)))
theorem rightSlip_ok (s : Slip) (h0 : s.1.size ≤ 1000000000) : Runs (fun k => event_rightSlip.f k s) ((slipB s, ()), ()) := by
  refine Runs.step (fun k => rfl) (Runs.bind (isName_ok _ h0) ?_)
  unfold slipB
  refine Runs.nand' (Runs.step (fun k => rfl) Runs.some) (fun _ => ?_)
  have e : (((s.2.1.size : Nat) : Int) != 32) = !decide (s.2.1.size = 32) := by
    by_cases h : s.2.1.size = 32
    · rw [h]; rfl
    · rw [decide_eq_false h]; simp; omega
  rw [e]
  refine Runs.step (fun k => rfl) ((Runs.nand (v := _) Runs.some (fun _ => ?_)).vbool (by rw [Bool.not_not]))
  cases h3 : s.2.2.2.1 with
  | true => exact Runs.yes (by rfl) (Runs.some' (by rw [empty_iff, if_pos rfl]))
  | false =>
    refine Runs.no (by rfl) ((Runs.and (v := decide (s.2.2.1.size ≤ 224)) (fun _ => Runs.some' (by congr 2; exact decide_eq_decide.mpr (by omega))) Runs.some).vbool ?_)
    rw [if_neg (by decide)]
    congr 1; exact decide_eq_decide.mpr (by omega)
/-- May fields be, each by itself? -/
noncomputable def slipsB (gone : Bool) (l : List Slip) : Bool := l.all (fun s => slipB s && (!gone || s.2.2.2.1))
theorem entry_loop (l : List Slip) (gone : Bool) (hl : l.length ≤ 1000000000) (hs : ∀ s ∈ l, s.1.size ≤ 1000000000) (id : ByteArray) (a b c : Int) (holds : List ByteArray) :
    ∀ (m i : Nat), i + m = l.length → Runs (fun k => event_RightEntry.l0 k ((l.take i).map (·.1)) l (l.length : Int) (i : Int) id a b c l gone holds) ((slipsB gone (l.drop i) && riseB none (l.map (·.1)), ()), ()) := by
  intro m
  induction m with
  | zero =>
    intro i hi
    rw [List.drop_of_length_le (by omega), List.take_of_length_le (by omega)]
    refine Runs.step (fun k => rfl) (Runs.no (by apply decide_eq_false; omega) (Runs.bind (rising_ok _ (by simpa using hl) (fun x hx => ?_)) Runs.some))
    obtain ⟨y, hy, rfl⟩ := List.mem_map.1 hx
    exact hs y hy
  | succ m ih =>
    intro i hi
    have hlt : i < l.length := by omega
    have next := ih (i + 1) (by omega)
    rw [List.take_succ_eq_append_getElem hlt, List.map_append] at next
    have hck : decide ((((l.take i).map (·.1)).length + ([(l[i]).1] : List ByteArray).length) * 16 ≤ 70368744177664) = true := by simp; omega
    refine Runs.step (fun k => rfl) (Runs.yes (by apply decide_eq_true; omega) (Runs.opt (rdo_at hlt) (Runs.bind (rightSlip_ok _ (hs _ (List.getElem_mem hlt))) ?_)))
    rw [wrap_i64 (n := (i : Int) + 1) (by omega) (by omega)]
    unfold slipsB
    rw [List.drop_eq_getElem_cons hlt, List.all_cons, Bool.and_assoc, Bool.and_assoc]
    refine Runs.nand' Runs.some (fun _ => ?_)
    cases gone with
    | false => exact Runs.no (by rfl) (Runs.ck hck next)
    | true =>
      refine Runs.yes (by rfl) ?_
      rw [show (!true || (l[i]).2.2.2.1) = (l[i]).2.2.2.1 from by simp]
      exact Runs.nand' Runs.some (fun _ => Runs.ck hck next)
/-- May a paper as it is kept be? -/
noncomputable def entryB (e : Entry) : Bool :=
  wordB e.1 24 && (!decide (e.2.1 < 0) && (!decide (e.2.1 ≥ 8) && (!decide (e.2.2.1 < 0) && (!decide (e.2.2.1 > 1099511627776) && (!decide (e.2.2.2.1 < 0) && (!decide (e.2.2.2.1 ≥ 64) &&
    (!decide ((e.2.2.2.2.1.length : Int) < 1) && (!decide ((e.2.2.2.2.1.length : Int) > 12) && (!decide ((e.2.2.2.2.2.2.1.length : Int) > 4) && (riseB none e.2.2.2.2.2.2.1 && (slipsB e.2.2.2.2.2.1 e.2.2.2.2.1 && riseB none (e.2.2.2.2.1.map (·.1)))))))))))))
/-- An entry of a size that can be. -/
structure EntryOk (e : Entry) : Prop where
  id : e.1.size ≤ 1000000000
  l : e.2.2.2.2.1.length ≤ 1000000000
  s : ∀ s ∈ e.2.2.2.2.1, s.1.size ≤ 1000000000 ∧ s.2.1.size ≤ 1000000000 ∧ s.2.2.1.size ≤ 1000000000
  h : e.2.2.2.2.2.2.1.length ≤ 1000000000
  t : ∀ a ∈ e.2.2.2.2.2.2.1, a.size ≤ 1000000000
theorem rightEntry_ok (e : Entry) (h : EntryOk e) : Runs (fun k => event_RightEntry.f k e) ((entryB e, ()), ()) := by
  refine Runs.step (fun k => rfl) (Runs.bind (isID_ok _ h.id) ?_)
  refine Runs.nand' Runs.some (fun _ => Runs.nand Runs.some (fun _ => Runs.nand Runs.some (fun _ => Runs.nand Runs.some (fun _ => Runs.nand Runs.some (fun _ => Runs.nand Runs.some (fun _ => Runs.nand Runs.some (fun _ => Runs.nand Runs.some (fun _ => Runs.nand Runs.some (fun _ => Runs.nand Runs.some (fun _ => Runs.bind (rising_ok _ h.h h.t) (Runs.nand' Runs.some (fun _ => ?_))))))))))))
  exact Runs.step (fun k => rfl) (entry_loop _ _ h.l (fun s hs => (h.s s hs).1) _ _ _ _ _ _ 0 (Nat.zero_add _))
/-- May an event be? -/
noncomputable def eventB (v : Event) : Bool :=
  if v.1 = 1 then entryB v.2.1
  else if v.1 = 2 then decide (0 ≤ v.2.2.1 ∧ v.2.2.1 < 64) && decide (0 ≤ v.2.2.2.1 ∧ v.2.2.2.1 < 12)
  else if v.1 = 3 then decide (0 ≤ v.2.2.1 ∧ v.2.2.1 < 64)
  else if v.1 = 4 ∨ v.1 = 5 then decide (0 ≤ v.2.2.1 ∧ v.2.2.1 < 64) && wordB v.2.2.2.2.1 16
  else if v.1 = 6 then decide (0 ≤ v.2.2.2.2.2.1.1 ∧ v.2.2.2.2.2.1.1 ≤ 64) && decide (v.2.2.2.2.2.1.2.1.size = 32)
  else if v.1 = 7 then decide (0 ≤ v.2.2.2.2.2.2.1 ∧ v.2.2.2.2.2.2.1 ≤ 1099511627776)
  else false
structure EventOk (v : Event) : Prop where
  e : EntryOk v.2.1
  n : v.2.2.2.2.1.size ≤ 1000000000
  r : v.2.2.2.2.2.1.2.1.size ≤ 1000000000
/-- What is left of the test for kinds from 4 on. -/
noncomputable def tailB (sq : Bool) (kind : Int) (t : Bool) (name : ByteArray) (p : Int × ByteArray × Unit) (now : Int) : Bool :=
  if t = true then sq && wordB name 16 else if kind = 6 then decide (0 ≤ p.1 ∧ p.1 ≤ 64) && decide (p.2.1.size = 32) else if kind = 7 then decide (0 ≤ now ∧ now ≤ 1099511627776) else false
theorem size_is {n : Nat} : (((n : Nat) : Int) == 32) = decide (n = 32) := by
  by_cases h : n = 32
  · rw [h]; rfl
  · rw [decide_eq_false h]; simp; omega
theorem and_dec {p q r : Prop} [Decidable p] [Decidable q] [Decidable r] (h : r ↔ p ∧ q) : (decide p && decide q) = decide r := by
  rw [← Bool.decide_and]; exact decide_eq_decide.mpr h.symm
theorem right_j0 (sq : Bool) (kind : Int) (t : Bool) (k2 : Int) (e : Entry) (seq idx : Int) (name : ByteArray) (p : Int × ByteArray × Unit) (now : Int) (hn : name.size ≤ 1000000000) :
    Runs (fun k => event_Right.j0 k sq kind t k2 e seq idx name p now) ((tailB sq kind t name p now, ()), ()) := by
  refine Runs.step (fun k => rfl) (Runs.cond (fun h => ?_) (fun h => ?_))
  · unfold tailB; rw [if_pos h]
    exact Runs.and (fun _ => Runs.bind (isName_ok _ hn) Runs.some) Runs.some
  · unfold tailB; rw [if_neg (by simp [h])]
    refine Runs.cond (fun h6 => ?_) (fun h6 => ?_)
    · rw [if_pos (by simpa using h6)]
      refine (Runs.and (v := decide (p.1 ≤ 64) && decide (p.2.1.size = 32)) (fun _ => Runs.and (fun _ => Runs.some' (by rw [size_is])) Runs.some) Runs.some).vbool ?_
      rw [← Bool.and_assoc, and_dec (p := p.1 ≥ 0) (q := p.1 ≤ 64) Iff.rfl]
    · rw [if_neg (by simpa using h6)]
      refine Runs.cond (fun h7 => ?_) (fun h7 => ?_)
      · rw [if_pos (by simpa using h7)]
        exact (Runs.and (v := decide (now ≤ 1099511627776)) (fun _ => Runs.some) Runs.some).vbool (and_dec (by omega))
      · rw [if_neg (by simpa using h7)]; exact Runs.some
theorem tail_eq (v : Event) (sq : Bool) (hsq : sq = decide (0 ≤ v.2.2.1 ∧ v.2.2.1 < 64)) (h1 : ¬ v.1 = 1) (h2 : ¬ v.1 = 2) (h3 : ¬ v.1 = 3) (t : Bool) (ht : t = decide (v.1 = 4 ∨ v.1 = 5)) :
    tailB sq v.1 t v.2.2.2.2.1 v.2.2.2.2.2.1 v.2.2.2.2.2.2.1 = eventB v := by
  unfold tailB eventB
  rw [if_neg h1, if_neg h2, if_neg h3, ht, hsq]
  by_cases h : v.1 = 4 ∨ v.1 = 5
  · rw [if_pos (decide_eq_true h), if_pos h]
  · rw [if_neg (by simpa using h), if_neg h]
theorem right_ok (v : Event) (h : EventOk v) : Runs (fun k => event_Right.f k v) ((eventB v, ()), ()) := by
  have h1 : v.1 = 1 → eventB v = entryB v.2.1 := fun e => by unfold eventB; rw [if_pos e]
  refine Runs.step (fun k => rfl) (Runs.dec (fun hs => ?_) (fun hs => ?_))
  · refine Runs.cond (fun g1 => ?_) (fun g1 => ?_)
    · rw [h1 (by simpa using g1)]; exact Runs.bind (rightEntry_ok v.2.1 h.e) Runs.some
    have g1 : ¬ v.1 = 1 := by simpa using g1
    refine Runs.cond (fun g2 => ?_) (fun g2 => ?_)
    · have g2 : v.1 = 2 := by simpa using g2
      refine (Runs.and (v := decide (v.2.2.2.1 ≥ 0) && decide (v.2.2.2.1 < 12)) (fun _ => Runs.and (fun _ => Runs.some) Runs.some) Runs.some).vbool ?_
      unfold eventB; rw [if_neg g1, if_pos g2, and_dec (p := v.2.2.2.1 ≥ 0) (q := v.2.2.2.1 < 12) Iff.rfl]
      congr 1
      exact decide_eq_decide.mpr (by omega)
    have g2 : ¬ v.1 = 2 := by simpa using g2
    refine Runs.cond (fun g3 => ?_) (fun g3 => ?_)
    · have g3 : v.1 = 3 := by simpa using g3
      refine Runs.some' ?_
      unfold eventB; rw [if_neg g1, if_neg g2, if_pos g3]
      congr 2
      exact decide_eq_decide.mpr (by omega)
    have g3 : ¬ v.1 = 3 := by simpa using g3
    refine Runs.cond (fun g4 => ?_) (fun g4 => ?_)
    · have g4' : v.1 = 4 := by simpa using g4
      exact (right_j0 _ _ _ _ _ _ _ _ _ _ h.n).vbool (tail_eq v _ (decide_eq_decide.mpr (by omega)) g1 g2 g3 _ (by rw [g4']; rfl))
    · have g4' : ¬ v.1 = 4 := by simpa using g4
      refine (right_j0 _ _ _ _ _ _ _ _ _ _ h.n).vbool (tail_eq v _ (decide_eq_decide.mpr (by omega)) g1 g2 g3 _ ?_)
      by_cases g5 : v.1 = 5
      · rw [g5]; rfl
      · rw [decide_eq_false (by omega)]; simpa using g5
  · refine Runs.cond (fun g1 => ?_) (fun g1 => ?_)
    · rw [h1 (by simpa using g1)]; exact Runs.bind (rightEntry_ok v.2.1 h.e) Runs.some
    have g1 : ¬ v.1 = 1 := by simpa using g1
    have hsq : decide (0 ≤ v.2.2.1 ∧ v.2.2.1 < 64) = false := decide_eq_false (by omega)
    refine Runs.cond (fun g2 => ?_) (fun g2 => ?_)
    · have g2 : v.1 = 2 := by simpa using g2
      refine Runs.some' ?_
      unfold eventB; rw [if_neg g1, if_pos g2, hsq]; rfl
    have g2 : ¬ v.1 = 2 := by simpa using g2
    refine Runs.cond (fun g3 => ?_) (fun g3 => ?_)
    · have g3 : v.1 = 3 := by simpa using g3
      refine Runs.some' ?_
      unfold eventB; rw [if_neg g1, if_neg g2, if_pos g3, hsq]
    have g3 : ¬ v.1 = 3 := by simpa using g3
    refine Runs.cond (fun g4 => ?_) (fun g4 => ?_)
    · have g4' : v.1 = 4 := by simpa using g4
      exact (right_j0 _ _ _ _ _ _ _ _ _ _ h.n).vbool (tail_eq v _ hsq.symm g1 g2 g3 _ (by rw [g4']; rfl))
    · have g4' : ¬ v.1 = 4 := by simpa using g4
      refine (right_j0 _ _ _ _ _ _ _ _ _ _ h.n).vbool (tail_eq v _ hsq.symm g1 g2 g3 _ ?_)
      by_cases g5 : v.1 = 5
      · rw [g5]; rfl
      · rw [decide_eq_false (by omega)]; simpa using g5
end Go.Proofs.Ythedgoefiffogaa.Pure
