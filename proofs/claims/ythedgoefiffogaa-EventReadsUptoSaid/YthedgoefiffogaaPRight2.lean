/- Plain laws: which events may be, as the document has it. -/
import Derived.Test.YthedgoefiffogaaPRight
namespace Go.Proofs.Ythedgoefiffogaa.Pure
open Go Go.Proofs.Ythedgoefiffogaa.E Go.Proofs.Ythedgoefiffogaa.Eng
set_option linter.unusedVariables false
set_option linter.unusedSimpArgs false

abbrev signs : ByteArray := ⟨#[97, 98, 99, 100, 101, 102, 103, 104, 105, 106, 107, 108, 109, 110, 111, 112, 113, 114, 115, 116, 117, 118, 119, 120, 121, 122, 65, 66, 67, 68, 69, 70, 71, 72, 73, 74, 75, 76, 77, 78, 79, 80, 81, 82, 83, 84, 85, 86, 87, 88, 89, 90, 48, 49, 50, 51, 52, 53, 54, 55, 56, 57, 45, 95, 46]⟩
theorem signs_len : signs.data.toList.length = 65 := rfl
def inSigns (n : Int) : Bool := signs.data.toList.any fun c => (c.toNat : Int) == n
theorem signs_all : (List.range 256).all (fun n => signB (n : Int) == inSigns (n : Int)) = true := by kernel_rfl
theorem sign_eq (b : UInt8) : signB (b.toNat : Int) = inSigns (b.toNat : Int) := by
  have := List.all_eq_true.1 signs_all b.toNat (List.mem_range.2 b.toNat_lt)
  simpa using this
theorem ref_inner (a : ByteArray) (most : Int) (i : Nat) (hi : i < a.data.toList.length) (S : ByteArray) (hS : S.data.toList.length ≤ 65) {v : Bool} (next : Runs (fun k => chartularyref14_word.l0 k a most S (IntKind.wrap .i64 ((i : Int) + 1))) ((v, ()), ())) : ∀ (m j : Nat) (x : Bool), j + m = S.data.toList.length →
    Runs (fun k => chartularyref14_word.l1 k a most S (i : Int) x (j : Int)) (((x || (S.data.toList.drop j).any (fun c => (c.toNat : Int) == ((a.data.toList[i]).toNat : Int))) && v, ()), ()) := by
  have hsz : S.size = S.data.toList.length := size_list S
  intro m
  induction m with
  | zero =>
    intro j x hj
    rw [List.drop_of_length_le (by omega)]
    refine Runs.step (fun k => rfl) (Runs.no (by apply decide_eq_false; omega) ?_)
    rw [List.any_nil, Bool.or_false]
    exact Runs.nand' Runs.some (fun _ => next)
  | succ m ih =>
    intro j x hj
    have hlt : j < S.data.toList.length := by omega
    have hw : IntKind.wrap .i64 ((j : Int) + 1) = ((j + 1 : Nat) : Int) := wrap_i64 (by omega) (by omega)
    refine Runs.step (fun k => rfl) (Runs.yes (by apply decide_eq_true; omega) ?_)
    rw [hw]
    cases x with
    | true =>
      refine Runs.yes (by rfl) ((ih (j + 1) true (by omega)).vbool ?_)
      rw [Bool.true_or, Bool.true_or]
    | false =>
      refine Runs.no (by rfl) (Runs.opt (bto_at hlt) (Runs.opt (bto_at hi) ((ih (j + 1) _ (by omega)).vbool ?_)))
      rw [List.drop_eq_getElem_cons hlt, List.any_cons, Bool.false_or]
theorem ref_outer (a : ByteArray) (ha : a.size ≤ 1000000000) (most : Int) : ∀ (m i : Nat), i + m = a.data.toList.length →
    Runs (fun k => chartularyref14_word.l0 k a most signs (i : Int)) (((a.data.toList.drop i).all (fun c => inSigns (c.toNat : Int)) && (decide (0 < a.size) && decide ((a.size : Int) ≤ most)), ()), ()) := by
  have hsz := size_list a
  intro m
  induction m with
  | zero =>
    intro i hi
    rw [List.drop_of_length_le (by omega), List.all_nil, Bool.true_and]
    refine Runs.step (fun k => rfl) (Runs.no (by apply decide_eq_false; omega) ((Runs.and (v := decide ((a.size : Int) ≤ most)) (fun _ => Runs.some) Runs.some).vbool ?_))
    congr 1; exact decide_eq_decide.mpr (by omega)
  | succ m ih =>
    intro i hi
    have hlt : i < a.data.toList.length := by omega
    have next := ih (i + 1) (by omega)
    rw [show ((i + 1 : Nat) : Int) = IntKind.wrap .i64 ((i : Int) + 1) from (wrap_i64 (by omega) (by omega)).symm] at next
    rw [List.drop_eq_getElem_cons hlt, List.all_cons, Bool.and_assoc]
    refine Runs.step (fun k => rfl) (Runs.yes (by apply decide_eq_true; omega) ((ref_inner a most i hlt signs (by rw [signs_len]; decide) next 65 0 false (by rw [signs_len])).vbool ?_))
    rw [List.drop_zero, Bool.false_or]; rfl
theorem ref_word (a : ByteArray) (ha : a.size ≤ 1000000000) (most : Int) : Runs (fun k => chartularyref14_word.f k a most) ((wordB a most, ()), ()) := by
  refine Runs.step (fun k => rfl) ((ref_outer a ha most _ 0 (Nat.zero_add _)).vbool ?_)
  unfold wordB
  rw [List.drop_zero, Bool.and_comm, Bool.and_assoc]
  congr 1
  · by_cases h : a.size = 0
    · rw [decide_eq_true h, decide_eq_false (by omega)]; rfl
    · rw [decide_eq_false h, decide_eq_true (by omega)]; rfl
  · congr 1
    · by_cases h : (a.size : Int) > most
      · rw [decide_eq_true h, decide_eq_false (by omega)]; rfl
      · rw [decide_eq_false h, decide_eq_true (by omega)]; rfl
    · congr 1; funext c; exact (sign_eq c).symm

noncomputable abbrev entL1 (k : Nat) (x : Bool) (i : Int) (e : Entry) := chartularyref14_RightEntry.l1 k x i e.1 e.2.1 e.2.2.1 e.2.2.2.1 e.2.2.2.2.1 e.2.2.2.2.2.1 e.2.2.2.2.2.2.1
noncomputable abbrev entL0 (k : Nat) (x : Bool) (i : Int) (e : Entry) := chartularyref14_RightEntry.l0 k x i e.1 e.2.1 e.2.2.1 e.2.2.2.1 e.2.2.2.2.1 e.2.2.2.2.2.1 e.2.2.2.2.2.2.1
theorem l1_false (e : Entry) (h : EntryOk e) : ∀ (m i : Nat), i + m = e.2.2.2.2.1.length → Runs (fun k => entL1 k false (i : Int) e) ((false, ()), ()) := by
  have hl := h.l
  intro m
  induction m with
  | zero => intro i hi; exact Runs.step (fun k => rfl) (Runs.no (by apply decide_eq_false; omega) Runs.some)
  | succ m ih =>
    intro i hi
    have hlt : i < e.2.2.2.2.1.length := by omega
    have next := ih (i + 1) (by omega)
    rw [show ((i + 1 : Nat) : Int) = IntKind.wrap .i64 ((i : Int) + 1) from (wrap_i64 (by omega) (by omega)).symm] at next
    exact Runs.step (fun k => rfl) (Runs.yes (by apply decide_eq_true; omega) (Runs.opt (rdo_at hlt) (Runs.no (by rfl) (Runs.both next next))))
/-- Fields from a place on, the document's way: each by itself, and in order. -/
noncomputable def refSlips (gone : Bool) : Option ByteArray → List Slip → Bool
  | _, [] => true
  | p, s :: l => (wordB s.1 16 && (decide (s.2.1.size = 32) && ((match p with | none => true | some q => Op.bytesLess q.toList s.1.toList) && (if s.2.2.2.1 = true then decide (s.2.2.1.size = 0) else decide (16 ≤ s.2.2.1.size) && (decide (s.2.2.1.size ≤ 224) && !gone))))) && refSlips gone (some s.1) l
def lessO (p : Option ByteArray) (a : ByteArray) : Bool := match p with | none => true | some q => Op.bytesLess q.toList a.toList
theorem riseB_cons' (p : Option ByteArray) (a : ByteArray) (l : List ByteArray) : riseB p (a :: l) = (wordB a 16 && (lessO p a && riseB (some a) l)) := by cases p <;> rfl
theorem refSlips_cons' (gone : Bool) (p : Option ByteArray) (s : Slip) (l : List Slip) : refSlips gone p (s :: l) = ((wordB s.1 16 && (decide (s.2.1.size = 32) && (lessO p s.1 && (if s.2.2.2.1 = true then decide (s.2.2.1.size = 0) else decide (16 ≤ s.2.2.1.size) && (decide (s.2.2.1.size ≤ 224) && !gone))))) && refSlips gone (some s.1) l) := by cases p <;> rfl
theorem refSlips_cons (gone : Bool) (p : Option ByteArray) (s : Slip) (l : List Slip) : refSlips gone p (s :: l) = ((wordB s.1 16 && (decide (s.2.1.size = 32) && ((match p with | none => true | some q => Op.bytesLess q.toList s.1.toList) && (if s.2.2.2.1 = true then decide (s.2.2.1.size = 0) else decide (16 ≤ s.2.2.1.size) && (decide (s.2.2.1.size ≤ 224) && !gone))))) && refSlips gone (some s.1) l) := by cases p <;> rfl
theorem refSlips_eq (gone : Bool) : ∀ (l : List Slip) (p : Option ByteArray), refSlips gone p l = (slipsB gone l && riseB p (l.map (·.1)))
  | [], p => by simp [refSlips, slipsB, riseB]
  | s :: l, p => by
    rw [refSlips_cons', refSlips_eq gone l, List.map_cons, riseB_cons']
    unfold slipsB
    rw [List.all_cons]
    unfold slipB
    generalize lessO p s.1 = x1
    generalize l.all _ = x2
    generalize riseB _ _ = x3
    generalize wordB s.1 16 = x4
    generalize decide (s.2.1.size = 32) = x5
    generalize decide (s.2.2.1.size = 0) = x6
    generalize decide (16 ≤ s.2.2.1.size) = x7
    generalize decide (s.2.2.1.size ≤ 224) = x8
    cases hs : s.2.2.2.1 <;> simp only [if_true, Bool.false_eq_true, if_false] <;> cases gone <;> cases x1 <;> cases x4 <;> cases x5 <;> cases x6 <;> cases x7 <;> cases x8 <;> simp
/-- A truth that goes on as it is, or stays false. -/
theorem l1_next (e : Entry) (h : EntryOk e) {i : Nat} (hi : i + 1 ≤ e.2.2.2.2.1.length) {v : Bool} (next : Runs (fun k => entL1 k true ((i + 1 : Nat) : Int) e) ((v, ()), ())) (b : Bool) : Runs (fun k => entL1 k b (IntKind.wrap .i64 ((i : Int) + 1)) e) ((b && v, ()), ()) := by
  have hl := h.l
  rw [show IntKind.wrap .i64 ((i : Int) + 1) = ((i + 1 : Nat) : Int) from wrap_i64 (by omega) (by omega)]
  cases b with
  | true => exact next
  | false => exact l1_false e h (e.2.2.2.2.1.length - (i + 1)) (i + 1) (by omega)
theorem l1_true (e : Entry) (h : EntryOk e) : ∀ (m i : Nat), i + m = e.2.2.2.2.1.length → Runs (fun k => entL1 k true (i : Int) e) ((refSlips e.2.2.2.2.2.1 (prevOf (·.1) e.2.2.2.2.1 i) (e.2.2.2.2.1.drop i), ()), ()) := by
  have hl := h.l
  intro m
  induction m with
  | zero =>
    intro i hi
    rw [List.drop_of_length_le (by omega)]
    exact Runs.step (fun k => rfl) (Runs.no (by apply decide_eq_false; omega) (Runs.some' (by simp only [refSlips])))
  | succ m ih =>
    intro i hi
    have hlt : i < e.2.2.2.2.1.length := by omega
    have hs := h.s _ (List.getElem_mem hlt)
    have nt := l1_next e h hlt (ih (i + 1) (by omega))
    rw [prev_succ hlt] at nt
    rw [List.drop_eq_getElem_cons hlt, refSlips_cons]
    generalize hx : (e.2.2.2.2.1)[i] = s at nt hs ⊢
    generalize refSlips e.2.2.2.2.2.1 (some s.1) (e.2.2.2.2.1.drop (i + 1)) = v at nt ⊢
    have nf := nt false
    refine Runs.step (fun k => rfl) (Runs.yes (by apply decide_eq_true; omega) (Runs.opt (v := s) (by rw [rdo_at hlt, hx]) (Runs.yes (by rfl) (Runs.bind (ref_word _ hs.1 16) ?_))))
    rw [Bool.and_assoc]
    refine Runs.and (fun _ => ?_) (Runs.both nf nf)
    rw [Bool.and_assoc, ← size_is]
    refine Runs.and (fun _ => ?_) (Runs.both nf nf)
    have last : ∀ q : Bool, q = false → Runs (fun k => bif decide (((s.2.2.1.size : Int) : Int) ≥ 16) then (bif decide (((s.2.2.1.size : Int) : Int) ≤ 224) then entL1 k (!e.2.2.2.2.2.1) (IntKind.wrap .i64 ((i : Int) + 1)) e else entL1 k false (IntKind.wrap .i64 ((i : Int) + 1)) e) else entL1 k false (IntKind.wrap .i64 ((i : Int) + 1)) e) (((decide (16 ≤ s.2.2.1.size) && (decide (s.2.2.1.size ≤ 224) && !e.2.2.2.2.2.1)) && v, ()), ()) := fun q _ => by
      rw [Bool.and_assoc, Bool.and_assoc]
      refine (Runs.and (v := decide (s.2.2.1.size ≤ 224) && (!e.2.2.2.2.2.1 && v)) (fun _ => (Runs.and (v := !e.2.2.2.2.2.1 && v) (fun _ => nt _) nf).vbool ?_) nf).vbool ?_
      · congr 1; exact decide_eq_decide.mpr (by omega)
      · congr 1; exact decide_eq_decide.mpr (by omega)
    have body : ∀ b : Bool, Runs (fun k => bif s.2.2.2.1 then (bif b then entL1 k (s.2.2.1.toList == (⟨#[]⟩ : ByteArray).toList) (IntKind.wrap .i64 ((i : Int) + 1)) e else entL1 k false (IntKind.wrap .i64 ((i : Int) + 1)) e) else (bif b then (bif decide (((s.2.2.1.size : Int) : Int) ≥ 16) then (bif decide (((s.2.2.1.size : Int) : Int) ≤ 224) then entL1 k (!e.2.2.2.2.2.1) (IntKind.wrap .i64 ((i : Int) + 1)) e else entL1 k false (IntKind.wrap .i64 ((i : Int) + 1)) e) else entL1 k false (IntKind.wrap .i64 ((i : Int) + 1)) e) else entL1 k false (IntKind.wrap .i64 ((i : Int) + 1)) e))
        (((b && (if s.2.2.2.1 = true then decide (s.2.2.1.size = 0) else decide (16 ≤ s.2.2.1.size) && (decide (s.2.2.1.size ≤ 224) && !e.2.2.2.2.2.1))) && v, ()), ()) := fun b => by
      rw [Bool.and_assoc]
      cases hs3 : s.2.2.2.1 with
      | true =>
        refine Runs.yes (by rfl) (Runs.and (fun _ => ?_) nf)
        rw [if_pos rfl]
        have := nt (s.2.2.1.toList == (⟨#[]⟩ : ByteArray).toList)
        rw [empty_iff] at this ⊢
        exact this
      | false =>
        refine Runs.no (by rfl) (Runs.and (fun _ => ?_) nf)
        rw [if_neg (by decide)]; exact last false rfl
    rcases Nat.eq_zero_or_pos i with rfl | h0
    · rw [prev_zero]
      have := body true
      cases hs3 : s.2.2.2.1 with
      | true => rw [hs3] at this; exact Runs.yes (by rfl) (Runs.yes (by rfl) this)
      | false => rw [hs3] at this; exact Runs.yes (by rfl) (Runs.no (by rfl) this)
    · have hlt2 : i - 1 < e.2.2.2.2.1.length := by omega
      rw [prev_pos (by omega) hlt2]
      refine Runs.no (by simpa using (by omega : ¬ i = 0)) (Runs.opt (v := (e.2.2.2.2.1)[i - 1]) ?_ (body _))
      rw [wrap_i64 (n := (i : Int) - 1) (by omega) (by omega), show (i : Int) - 1 = ((i - 1 : Nat) : Int) by omega]
      exact rdo_at hlt2
theorem l1_all (e : Entry) (h : EntryOk e) (b : Bool) : Runs (fun k => entL1 k b 0 e) ((b && (slipsB e.2.2.2.2.2.1 e.2.2.2.2.1 && riseB none (e.2.2.2.2.1.map (·.1))), ()), ()) := by
  cases b with
  | true => have := l1_true e h _ 0 (Nat.zero_add _); rw [prev_zero, List.drop_zero, refSlips_eq] at this; exact this
  | false => exact l1_false e h _ 0 (Nat.zero_add _)
theorem l0_all (e : Entry) (h : EntryOk e) : ∀ (m i : Nat), i + m = e.2.2.2.2.2.2.1.length → ∀ b : Bool, Runs (fun k => entL0 k b (i : Int) e) ((b && (riseB (prevOf id e.2.2.2.2.2.2.1 i) (e.2.2.2.2.2.2.1.drop i) && (slipsB e.2.2.2.2.2.1 e.2.2.2.2.1 && riseB none (e.2.2.2.2.1.map (·.1)))), ()), ()) := by
  have hl := h.h
  have main := l1_all e h
  generalize (slipsB e.2.2.2.2.2.1 e.2.2.2.2.1 && riseB none (e.2.2.2.2.1.map (·.1))) = v at main ⊢
  intro m
  induction m with
  | zero =>
    intro i hi b
    rw [List.drop_of_length_le (by omega)]
    refine Runs.step (fun k => rfl) (Runs.no (by apply decide_eq_false; omega) ((main b).vbool ?_))
    simp [riseB]
  | succ m ih =>
    intro i hi b
    have hlt : i < e.2.2.2.2.2.2.1.length := by omega
    have hs := h.t _ (List.getElem_mem hlt)
    have nt := ih (i + 1) (by omega)
    rw [prev_succ hlt, show ((i + 1 : Nat) : Int) = IntKind.wrap .i64 ((i : Int) + 1) from (wrap_i64 (by omega) (by omega)).symm] at nt
    rw [List.drop_eq_getElem_cons hlt, riseB_cons]
    have nf := nt false
    refine Runs.step (fun k => rfl) (Runs.yes (by apply decide_eq_true; omega) (Runs.and (fun _ => Runs.opt (rdo_at hlt) (Runs.bind (ref_word _ hs 16) ?_)) nf))
    rw [Bool.and_assoc, Bool.and_assoc]
    refine Runs.and (fun _ => ?_) nf
    rcases Nat.eq_zero_or_pos i with rfl | h0
    · rw [prev_zero]; exact Runs.yes (by rfl) (nt true)
    · have hlt2 : i - 1 < e.2.2.2.2.2.2.1.length := by omega
      rw [prev_pos (by omega) hlt2]
      refine Runs.no (by simpa using (by omega : ¬ i = 0)) (Runs.opt (v := (e.2.2.2.2.2.2.1)[i - 1]) ?_ (Runs.opt (rdo_at hlt) (nt _)))
      rw [wrap_i64 (n := (i : Int) - 1) (by omega) (by omega), show (i : Int) - 1 = ((i - 1 : Nat) : Int) by omega]
      exact rdo_at hlt2
theorem ref_rightEntry (e : Entry) (h : EntryOk e) : Runs (fun k => chartularyref14_RightEntry.f k e) ((entryB e, ()), ()) := by
  have j0 : ∀ b : Bool, Runs (fun k => chartularyref14_RightEntry.j0 k b e.1 e.2.1 e.2.2.1 e.2.2.2.1 e.2.2.2.2.1 e.2.2.2.2.2.1 e.2.2.2.2.2.2.1) ((b && (riseB none e.2.2.2.2.2.2.1 && (slipsB e.2.2.2.2.2.1 e.2.2.2.2.1 && riseB none (e.2.2.2.2.1.map (·.1)))), ()), ()) := fun b => by
    have := l0_all e h _ 0 (Nat.zero_add _) b
    rw [prev_zero, List.drop_zero] at this
    exact Runs.step (fun k => rfl) this
  unfold entryB
  generalize (riseB none e.2.2.2.2.2.2.1 && (slipsB e.2.2.2.2.2.1 e.2.2.2.2.1 && riseB none (e.2.2.2.2.1.map (·.1)))) = v at j0 ⊢
  have nf := j0 false
  have ge : ∀ {x y : Int} {w : Bool}, (decide (x ≥ y) && w) = (!decide (x < y) && w) := fun {x y w} => by
    by_cases h : x < y
    · rw [decide_eq_true h, decide_eq_false (by omega)]; rfl
    · rw [decide_eq_false h, decide_eq_true (by omega)]; rfl
  have le : ∀ {x y z : Int} {w : Bool}, z = y + 1 → (decide (x ≤ y) && w) = (!decide (x ≥ z) && w) := fun {x y z w} hz => by
    by_cases h : x ≥ z
    · rw [decide_eq_true h, decide_eq_false (by omega)]; rfl
    · rw [decide_eq_false h, decide_eq_true (by omega)]; rfl
  have le' : ∀ {x y : Int} {w : Bool}, (decide (x ≤ y) && w) = (!decide (x > y) && w) := fun {x y w} => by
    by_cases h : x > y
    · rw [decide_eq_true h, decide_eq_false (by omega)]; rfl
    · rw [decide_eq_false h, decide_eq_true (by omega)]; rfl
  refine Runs.step (fun k => rfl) (Runs.bind (ref_word _ h.id 24) (Runs.and (fun _ => ?_) nf))
  refine (Runs.and (fun _ => ?_) nf).vbool ge
  refine (Runs.and (fun _ => ?_) nf).vbool (le (by rfl))
  refine (Runs.and (fun _ => ?_) nf).vbool ge
  refine (Runs.and (fun _ => ?_) nf).vbool le'
  refine (Runs.and (fun _ => ?_) nf).vbool ge
  refine (Runs.and (fun _ => ?_) nf).vbool (le (by rfl))
  refine (Runs.and (fun _ => ?_) nf).vbool ge
  refine (Runs.and (fun _ => ?_) nf).vbool le'
  exact (j0 _).vbool le'
theorem ref_j0 (sq : Bool) (kind : Int) (t : Bool) (k2 : Int) (e : Entry) (seq idx : Int) (name : ByteArray) (p : Int × ByteArray × Unit) (now : Int) (hn : name.size ≤ 1000000000) :
    Runs (fun k => chartularyref14_Right.j0 k sq kind t k2 e seq idx name p now) ((tailB sq kind t name p now, ()), ()) := by
  refine Runs.step (fun k => rfl) (Runs.cond (fun h => ?_) (fun h => ?_))
  · unfold tailB; rw [if_pos h]
    exact Runs.and (fun _ => Runs.bind (ref_word _ hn 16) Runs.some) Runs.some
  · unfold tailB; rw [if_neg (by simp [h])]
    refine Runs.cond (fun h6 => ?_) (fun h6 => ?_)
    · rw [if_pos (by simpa using h6)]
      refine (Runs.and (v := decide (p.1 ≤ 64) && decide (p.2.1.size = 32)) (fun _ => Runs.and (fun _ => Runs.some' (by rw [size_is])) Runs.some) Runs.some).vbool ?_
      rw [← Bool.and_assoc, and_dec (p := p.1 ≥ 0) (q := p.1 ≤ 64) Iff.rfl]
    · rw [if_neg (by simpa using h6)]
      refine Runs.cond (fun h7 => ?_) (fun h7 => ?_)
      · rw [if_pos (by simpa using h7)]
        exact (Runs.and (v := decide (now ≤ 1099511627776)) (fun _ => Runs.some) Runs.some).vbool (and_dec (by omega))
      · rw [if_neg (by simpa using h7)]; exact Runs.some
theorem ref_right (v : Event) (h : EventOk v) : Runs (fun k => chartularyref14_Right.f k v) ((eventB v, ()), ()) := by
  have h1 : v.1 = 1 → eventB v = entryB v.2.1 := fun e => by unfold eventB; rw [if_pos e]
  refine Runs.step (fun k => rfl) (Runs.dec (fun hs => ?_) (fun hs => ?_))
  · refine Runs.cond (fun g1 => ?_) (fun g1 => ?_)
    · rw [h1 (by simpa using g1)]; exact Runs.bind (ref_rightEntry v.2.1 h.e) Runs.some
    have g1 : ¬ v.1 = 1 := by simpa using g1
    refine Runs.cond (fun g2 => ?_) (fun g2 => ?_)
    · have g2 : v.1 = 2 := by simpa using g2
      refine (Runs.and (v := decide (v.2.2.2.1 ≥ 0) && decide (v.2.2.2.1 ≤ 11)) (fun _ => Runs.and (fun _ => Runs.some) Runs.some) Runs.some).vbool ?_
      unfold eventB; rw [if_neg g1, if_pos g2, and_dec (p := v.2.2.2.1 ≥ 0) (q := v.2.2.2.1 ≤ 11) (r := 0 ≤ v.2.2.2.1 ∧ v.2.2.2.1 < 12) (by omega)]
      congr 1
      exact decide_eq_decide.mpr (by omega)
    have g2 : ¬ v.1 = 2 := by simpa using g2
    refine Runs.cond (fun g3 => ?_) (fun g3 => ?_)
    · have g3 : v.1 = 3 := by simpa using g3
      refine Runs.some' ?_
      unfold eventB; rw [if_neg g1, if_neg g2, if_pos g3]
      congr 2
      exact decide_eq_decide.mpr (by omega)
    have g3 : ¬ v.1 = 3 := by simpa using g3
    refine Runs.cond (fun g4 => ?_) (fun g4 => ?_)
    · have g4' : v.1 = 4 := by simpa using g4
      exact (ref_j0 _ _ _ _ _ _ _ _ _ _ h.n).vbool (tail_eq v _ (decide_eq_decide.mpr (by omega)) g1 g2 g3 _ (by rw [g4']; rfl))
    · have g4' : ¬ v.1 = 4 := by simpa using g4
      refine (ref_j0 _ _ _ _ _ _ _ _ _ _ h.n).vbool (tail_eq v _ (decide_eq_decide.mpr (by omega)) g1 g2 g3 _ ?_)
      by_cases g5 : v.1 = 5
      · rw [g5]; rfl
      · rw [decide_eq_false (by omega)]; simpa using g5
  · refine Runs.cond (fun g1 => ?_) (fun g1 => ?_)
    · rw [h1 (by simpa using g1)]; exact Runs.bind (ref_rightEntry v.2.1 h.e) Runs.some
    have g1 : ¬ v.1 = 1 := by simpa using g1
    have hsq : decide (0 ≤ v.2.2.1 ∧ v.2.2.1 < 64) = false := decide_eq_false (by omega)
    refine Runs.cond (fun g2 => ?_) (fun g2 => ?_)
    · have g2 : v.1 = 2 := by simpa using g2
      refine Runs.some' ?_
      unfold eventB; rw [if_neg g1, if_pos g2, hsq]; rfl
    have g2 : ¬ v.1 = 2 := by simpa using g2
    refine Runs.cond (fun g3 => ?_) (fun g3 => ?_)
    · have g3 : v.1 = 3 := by simpa using g3
      refine Runs.some' ?_
      unfold eventB; rw [if_neg g1, if_neg g2, if_pos g3, hsq]
    have g3 : ¬ v.1 = 3 := by simpa using g3
    refine Runs.cond (fun g4 => ?_) (fun g4 => ?_)
    · have g4' : v.1 = 4 := by simpa using g4
      exact (ref_j0 _ _ _ _ _ _ _ _ _ _ h.n).vbool (tail_eq v _ hsq.symm g1 g2 g3 _ (by rw [g4']; rfl))
    · have g4' : ¬ v.1 = 4 := by simpa using g4
      refine (ref_j0 _ _ _ _ _ _ _ _ _ _ h.n).vbool (tail_eq v _ hsq.symm g1 g2 g3 _ ?_)
      by_cases g5 : v.1 = 5
      · rw [g5]; rfl
      · rw [decide_eq_false (by omega)]; simpa using g5
end Go.Proofs.Ythedgoefiffogaa.Pure
