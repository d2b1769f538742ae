/- Plain laws: which proofs may be, by the program and by the document. -/
import Derived.Test.YtfegehfdbcnepaaPWord
import Derived.Test.YtfegehfdbcnepaaOOne
namespace Go.Proofs.Ytfegehfdbcnepaa.Pure
open Go Go.Proofs.Ytfegehfdbcnepaa.E Go.Proofs.Ytfegehfdbcnepaa.Eng
set_option linter.unusedVariables false
set_option linter.unusedSimpArgs false

abbrev Item := Int × ByteArray × Bool × ByteArray × ByteArray × ByteArray × Unit
abbrev Show := ByteArray × Int × Int × Int × List Item × List ByteArray × Int × Int × List ByteArray × Unit
theorem size_n {n m : Nat} : (((n : Nat) : Int) == (m : Int)) = decide (n = m) := by
  by_cases h : n = m
  · rw [h]; simp
  · rw [decide_eq_false h]; simp; omega
theorem nbeq_n {n m : Nat} : (((n : Nat) : Int) != (m : Int)) = !decide (n = m) := by
  rw [bne, size_n]
/-- Are all sums, and not too many? -/
def sumsB (l : List ByteArray) (most : Int) : Bool := l.all (fun t => decide (t.size = 32)) && decide ((l.length : Int) ≤ most)
theorem sums_loop (l : List ByteArray) (hl : l.length ≤ 1000000000) (most : Int) : ∀ (m i : Nat), i + m = l.length → Runs (fun k => proof_sums.l0 k l most l (l.length : Int) (i : Int)) ((sumsB (l.drop i) (most - i), ()), ()) := by
  intro m
  induction m with
  | zero =>
    intro i hi
    rw [List.drop_of_length_le (by omega)]
    refine Runs.step (fun k => rfl) (Runs.no (by apply decide_eq_false; omega) (Runs.some' ?_))
    congr 2
    unfold sumsB
    rw [List.all_nil, Bool.true_and]
    exact decide_eq_decide.mpr (by simp; omega)
  | succ m ih =>
    intro i hi
    have hlt : i < l.length := by omega
    have nx := ih (i + 1) (by omega)
    rw [show ((i + 1 : Nat) : Int) = IntKind.wrap .i64 ((i : Int) + 1) from (wrap_i64 (by omega) (by omega)).symm] at nx
    rw [List.drop_eq_getElem_cons hlt]
    unfold sumsB at nx ⊢
    rw [List.all_cons, Bool.and_assoc]
    refine Runs.step (fun k => rfl) (Runs.yes (by apply decide_eq_true; omega) (Runs.opt (rdo_at hlt) ?_))
    rw [show (32 : Int) = ((32 : Nat) : Int) from rfl, nbeq_n]
    refine (Runs.nand (v := l.drop (i + 1) |>.all (fun t => decide (t.size = 32)) |> (· && decide (((l.drop i).length : Int) ≤ most - i))) Runs.some (fun _ => nx.vbool ?_)).vbool (by rw [Bool.not_not, List.drop_eq_getElem_cons hlt])
    congr 1
    exact decide_eq_decide.mpr (by rw [wrap_i64 (by omega) (by omega)]; simp only [List.length_drop]; omega)
theorem sums_ok (l : List ByteArray) (hl : l.length ≤ 1000000000) (most : Int) : Runs (fun k => proof_sums.f k l most) ((sumsB l most, ()), ()) := by
  have := sums_loop l hl most _ 0 (Nat.zero_add _)
  rw [List.drop_zero, show most - ((0 : Nat) : Int) = most by omega] at this
  exact Runs.step (fun k => rfl) this
theorem lsums_loop (l : List ByteArray) (hl : l.length ≤ 1000000000) (most : Int) : ∀ (m i : Nat), i + m = l.length → Runs (fun k => chartularylaw19_sums.l0 k l most (i : Int)) ((sumsB (l.drop i) (most - i), ()), ()) := by
  intro m
  induction m with
  | zero =>
    intro i hi
    rw [List.drop_of_length_le (by omega)]
    refine Runs.step (fun k => rfl) (Runs.no (by apply decide_eq_false; omega) (Runs.some' ?_))
    congr 2
    unfold sumsB
    rw [List.all_nil, Bool.true_and]
    exact decide_eq_decide.mpr (by simp; omega)
  | succ m ih =>
    intro i hi
    have hlt : i < l.length := by omega
    have nx := ih (i + 1) (by omega)
    rw [show ((i + 1 : Nat) : Int) = IntKind.wrap .i64 ((i : Int) + 1) from (wrap_i64 (by omega) (by omega)).symm] at nx
    rw [List.drop_eq_getElem_cons hlt]
    unfold sumsB at nx ⊢
    rw [List.all_cons, Bool.and_assoc]
    refine Runs.step (fun k => rfl) (Runs.yes (by apply decide_eq_true; omega) (Runs.opt (rdo_at hlt) ?_))
    rw [show (32 : Int) = ((32 : Nat) : Int) from rfl, nbeq_n]
    refine (Runs.nand (v := l.drop (i + 1) |>.all (fun t => decide (t.size = 32)) |> (· && decide (((l.drop i).length : Int) ≤ most - i))) Runs.some (fun _ => nx.vbool ?_)).vbool (by rw [Bool.not_not, List.drop_eq_getElem_cons hlt])
    congr 1
    exact decide_eq_decide.mpr (by rw [wrap_i64 (by omega) (by omega)]; simp only [List.length_drop]; omega)
theorem lsums_ok (l : List ByteArray) (hl : l.length ≤ 1000000000) (most : Int) : Runs (fun k => chartularylaw19_sums.f k l most) ((sumsB l most, ()), ()) := by
  have := lsums_loop l hl most _ 0 (Nat.zero_add _)
  rw [List.drop_zero, show most - ((0 : Nat) : Int) = most by omega] at this
  exact Runs.step (fun k => rfl) this

/-- May a field stand in a proof? -/
noncomputable def itemB (cnt : Int) (t : Item) : Bool := !decide (t.1 < 0) && (!decide (t.1 ≥ cnt) && (wordB t.2.1 16 && (if t.2.2.1 = true then decide (t.2.2.2.2.2.1.size = 32) && (decide (t.2.2.2.1.size = 0) && decide (t.2.2.2.2.1.size = 0)) else decide (t.2.2.2.2.2.1.size = 0) && (decide (t.2.2.2.1.size = 16) && decide (t.2.2.2.2.1.size ≤ 208)))))
def afterO (p : Option Item) (t : Item) : Bool := match p with | none => true | some q => decide (q.1 < t.1) && Op.bytesLess q.2.1.toList t.2.1.toList
noncomputable def itemsB (cnt : Int) : Option Item → List Item → Bool
  | _, [] => true
  | p, t :: l => itemB cnt t && (afterO p t && itemsB cnt (some t) l)
def prevI (l : List Item) (i : Nat) : Option Item := if i = 0 then none else l[i - 1]?
theorem prevI_zero {l : List Item} : prevI l 0 = none := rfl
theorem prevI_pos {l : List Item} {i : Nat} (h0 : i ≠ 0) (h : i - 1 < l.length) : prevI l i = some l[i - 1] := by unfold prevI; rw [if_neg h0]; simp [h]
theorem prevI_succ {l : List Item} {i : Nat} (h : i < l.length) : prevI l (i + 1) = some l[i] := by unfold prevI; rw [if_neg (by omega)]; simp [h]
theorem rightItem_ok (t : Item) (ht : t.2.1.size ≤ 1000000000) (cnt : Int) : Runs (fun k => proof_rightItem.f k t cnt) ((itemB cnt t, ()), ()) := by
  have jt : Runs (fun k => proof_rightItem.j0 k true t.1 t.2.1 t.2.2.1 t.2.2.2.1 t.2.2.2.2.1 t.2.2.2.2.2.1) ((false, ()), ()) := Runs.step (fun k => rfl) Runs.some
  unfold itemB
  refine Runs.step (fun k => rfl) (Runs.nand jt (fun _ => Runs.nand jt (fun _ => Runs.bind (isName_ok _ ht) ?_)))
  refine Runs.step (fun k => rfl) ((Runs.nand (b := !wordB t.2.1 16) Runs.some (fun _ => ?_)).vbool (by rw [Bool.not_not]))
  cases hf : t.2.2.1 with
  | true =>
    refine Runs.yes (by rfl) ?_
    rw [if_pos rfl, ← size_n (m := 32), ← empty_iff, ← empty_iff]
    exact Runs.and (fun _ => Runs.and (fun _ => Runs.some) Runs.some) Runs.some
  | false =>
    refine Runs.no (by rfl) ?_
    rw [if_neg (by decide), ← size_n (m := 16), ← empty_iff]
    refine Runs.and (fun _ => Runs.and (fun _ => Runs.some' ?_) Runs.some) Runs.some
    congr 2; exact decide_eq_decide.mpr (by omega)
structure ShowOk (s : Show) : Prop where
  id : s.1.size ≤ 300
  l : s.2.2.2.2.1.length ≤ 30
  i : ∀ t ∈ s.2.2.2.2.1, t.2.1.size ≤ 300 ∧ t.2.2.2.1.size ≤ 300 ∧ t.2.2.2.2.1.size ≤ 300 ∧ t.2.2.2.2.2.1.size ≤ 300
  n : s.2.2.2.2.2.1.length ≤ 30
  nt : ∀ t ∈ s.2.2.2.2.2.1, t.size ≤ 300
  p : s.2.2.2.2.2.2.2.2.1.length ≤ 30
  pt : ∀ t ∈ s.2.2.2.2.2.2.2.2.1, t.size ≤ 300
noncomputable def restB (s : Show) : Bool := sumsB s.2.2.2.2.2.1 12 && sumsB s.2.2.2.2.2.2.2.2.1 16
theorem right_loop (s : Show) (h : ShowOk s) : ∀ (m i : Nat), i + m = s.2.2.2.2.1.length → Runs (fun k => proof_Right.l0 k s.2.2.2.2.1 (s.2.2.2.2.1.length : Int) (i : Int) s.1 s.2.1 s.2.2.1 s.2.2.2.1 s.2.2.2.2.1 s.2.2.2.2.2.1 s.2.2.2.2.2.2.1 s.2.2.2.2.2.2.2.1 s.2.2.2.2.2.2.2.2.1) ((itemsB s.2.2.2.1 (prevI s.2.2.2.2.1 i) (s.2.2.2.2.1.drop i) && restB s, ()), ()) := by
  have hl := h.l
  intro m
  induction m with
  | zero =>
    intro i hi
    rw [List.drop_of_length_le (by omega)]
    refine Runs.step (fun k => rfl) (Runs.no (by apply decide_eq_false; omega) ((Runs.bind (sums_ok _ (by have := h.n; omega) 12) (Runs.and (fun _ => Runs.bind (sums_ok _ (by have := h.p; omega) 16) Runs.some) Runs.some)).vbool ?_))
    simp only [itemsB, Bool.true_and]; rfl
  | succ m ih =>
    intro i hi
    have hlt : i < s.2.2.2.2.1.length := by omega
    have hs := h.i _ (List.getElem_mem hlt)
    have nx := ih (i + 1) (by omega)
    rw [prevI_succ hlt, show ((i + 1 : Nat) : Int) = IntKind.wrap .i64 ((i : Int) + 1) from (wrap_i64 (by omega) (by omega)).symm] at nx
    rw [List.drop_eq_getElem_cons hlt]
    simp only [itemsB]
    rw [Bool.and_assoc, Bool.and_assoc]
    refine Runs.step (fun k => rfl) (Runs.yes (by apply decide_eq_true; omega) (Runs.opt (rdo_at hlt) (Runs.bind (rightItem_ok (s.2.2.2.2.1)[i] (by omega) _) (Runs.nand' Runs.some (fun _ => ?_)))))
    rcases Nat.eq_zero_or_pos i with rfl | h0
    · rw [prevI_zero]; exact Runs.no (by rfl) nx
    · have hlt2 : i - 1 < s.2.2.2.2.1.length := by omega
      have hr : rdo s.2.2.2.2.1 (IntKind.wrap .i64 ((i : Int) - 1)) = some (s.2.2.2.2.1)[i - 1] := by
        rw [wrap_i64 (n := (i : Int) - 1) (by omega) (by omega), show (i : Int) - 1 = ((i - 1 : Nat) : Int) by omega]; exact rdo_at hlt2
      rw [prevI_pos (by omega) hlt2]
      simp only [afterO]
      rw [Bool.and_assoc]
      refine Runs.yes (by apply decide_eq_true; omega) (Runs.opt hr ((Runs.nand Runs.some (fun _ => Runs.opt hr (Runs.nand' Runs.some (fun _ => nx)))).vbool ?_))
      congr 1
      by_cases hc : ((s.2.2.2.2.1)[i - 1]).1 < ((s.2.2.2.2.1)[i]).1
      · rw [decide_eq_true hc, decide_eq_false (by omega)]; rfl
      · rw [decide_eq_false hc, decide_eq_true (by omega)]; rfl
/-- May a proof be? -/
noncomputable def showB (s : Show) : Bool :=
  wordB s.1 24 && (!decide (s.2.1 < 0) && (!decide (s.2.1 ≥ 8) && (!decide (s.2.2.1 < 0) && (!decide (s.2.2.1 > 1099511627776) && (!decide (s.2.2.2.1 < 1) && (!decide (s.2.2.2.1 > 12) &&
    (!decide (s.2.2.2.2.2.2.2.1 < 1) && (!decide (s.2.2.2.2.2.2.2.1 > 65536) && (!decide (s.2.2.2.2.2.2.1 < 0) && (!decide (s.2.2.2.2.2.2.1 ≥ s.2.2.2.2.2.2.2.1) && (!decide ((s.2.2.2.2.1.length : Int) < 1) && (!decide ((s.2.2.2.2.1.length : Int) > s.2.2.2.1) &&
    (itemsB s.2.2.2.1 none s.2.2.2.2.1 && restB s)))))))))))))
theorem right_ok (s : Show) (h : ShowOk s) : Runs (fun k => proof_Right.f k s) ((showB s, ()), ()) := by
  have hl := right_loop s h _ 0 (Nat.zero_add _)
  rw [prevI_zero, List.drop_zero] at hl
  refine Runs.step (fun k => rfl) (Runs.bind (isID_ok _ (by have := h.id; omega)) ?_)
  exact Runs.nand' Runs.some (fun _ => Runs.nand Runs.some (fun _ => Runs.nand Runs.some (fun _ => Runs.nand Runs.some (fun _ => Runs.nand Runs.some (fun _ => Runs.nand Runs.some (fun _ => Runs.nand Runs.some (fun _ => Runs.nand Runs.some (fun _ => Runs.nand Runs.some (fun _ => Runs.nand Runs.some (fun _ => Runs.nand Runs.some (fun _ => Runs.nand Runs.some (fun _ => Runs.nand Runs.some (fun _ => Runs.step (fun k => rfl) hl)))))))))))))
noncomputable abbrev lawL (k : Nat) (b : Bool) (i : Int) (s : Show) := chartularylaw19_right.l0 k b i s.1 s.2.1 s.2.2.1 s.2.2.2.1 s.2.2.2.2.1 s.2.2.2.2.2.1 s.2.2.2.2.2.2.1 s.2.2.2.2.2.2.2.1 s.2.2.2.2.2.2.2.2.1
theorem law_false (s : Show) (h : ShowOk s) : ∀ (m i : Nat), i + m = s.2.2.2.2.1.length → Runs (fun k => lawL k false (i : Int) s) ((false, ()), ()) := by
  have hl := h.l
  intro m
  induction m with
  | zero => intro i hi; exact Runs.step (fun k => rfl) (Runs.no (by apply decide_eq_false; omega) Runs.some)
  | succ m ih =>
    intro i hi
    have hlt : i < s.2.2.2.2.1.length := by omega
    have nf := ih (i + 1) (by omega)
    rw [show ((i + 1 : Nat) : Int) = IntKind.wrap .i64 ((i : Int) + 1) from (wrap_i64 (by omega) (by omega)).symm] at nf
    exact Runs.step (fun k => rfl) (Runs.yes (by apply decide_eq_true; omega) (Runs.opt (rdo_at hlt) (Runs.no (by rfl) (Runs.both (Runs.both nf nf) (Runs.both nf nf)))))
theorem law_true (s : Show) (h : ShowOk s) : ∀ (m i : Nat), i + m = s.2.2.2.2.1.length → Runs (fun k => lawL k true (i : Int) s) ((itemsB s.2.2.2.1 (prevI s.2.2.2.2.1 i) (s.2.2.2.2.1.drop i) && restB s, ()), ()) := by
  have hl := h.l
  intro m
  induction m with
  | zero =>
    intro i hi
    rw [List.drop_of_length_le (by omega)]
    refine Runs.step (fun k => rfl) (Runs.no (by apply decide_eq_false; omega) (Runs.yes (by rfl) ((Runs.bind (lsums_ok _ (by have := h.n; omega) 12) (Runs.and (fun _ => Runs.bind (lsums_ok _ (by have := h.p; omega) 16) Runs.some) Runs.some)).vbool ?_)))
    simp only [itemsB, Bool.true_and]; rfl
  | succ m ih =>
    intro i hi
    have hlt : i < s.2.2.2.2.1.length := by omega
    have hs := h.i _ (List.getElem_mem hlt)
    have nx := ih (i + 1) (by omega)
    rw [prevI_succ hlt] at nx
    have nf := law_false s h m (i + 1) (by omega)
    have hw : ((i + 1 : Nat) : Int) = IntKind.wrap .i64 ((i : Int) + 1) := (wrap_i64 (by omega) (by omega)).symm
    rw [hw] at nx nf
    rw [List.drop_eq_getElem_cons hlt]
    simp only [itemsB]
    have ho : rdo s.2.2.2.2.1 (i : Int) = some (s.2.2.2.2.1)[i] := rdo_at hlt
    generalize hx : (s.2.2.2.2.1)[i] = t at nx hs ho ⊢
    generalize hv : (itemsB s.2.2.2.1 (some t) (s.2.2.2.2.1.drop (i + 1)) && restB s) = v at nx
    have nt : ∀ b : Bool, Runs (fun k => lawL k b (IntKind.wrap .i64 ((i : Int) + 1)) s) ((b && v, ()), ()) := fun b => by
      cases b with
      | true => exact nx
      | false => exact nf
    -- the last tests, with what is ahead
    have last : ∀ (b : Bool), Runs (fun k => bif decide ((i : Int) > 0) then (bif b then (rdo s.2.2.2.2.1 (IntKind.wrap .i64 ((i : Int) - 1))).bind fun t6 => bif decide ((t6.1 : Int) < t.1) then (rdo s.2.2.2.2.1 (IntKind.wrap .i64 ((i : Int) - 1))).bind fun t7 => lawL k (Op.bytesLess t7.2.1.toList t.2.1.toList) (IntKind.wrap .i64 ((i : Int) + 1)) s else lawL k false (IntKind.wrap .i64 ((i : Int) + 1)) s else lawL k false (IntKind.wrap .i64 ((i : Int) + 1)) s) else lawL k b (IntKind.wrap .i64 ((i : Int) + 1)) s) ((b && (afterO (prevI s.2.2.2.2.1 i) t && v), ()), ()) := fun b => by
      rcases Nat.eq_zero_or_pos i with rfl | h0
      · rw [prevI_zero]; exact Runs.no (by rfl) (nt b)
      · have hlt2 : i - 1 < s.2.2.2.2.1.length := by omega
        have hr : rdo s.2.2.2.2.1 (IntKind.wrap .i64 ((i : Int) - 1)) = some (s.2.2.2.2.1)[i - 1] := by
          rw [wrap_i64 (n := (i : Int) - 1) (by omega) (by omega), show (i : Int) - 1 = ((i - 1 : Nat) : Int) by omega]; exact rdo_at hlt2
        rw [prevI_pos (by omega) hlt2]
        simp only [afterO]
        refine Runs.yes (by apply decide_eq_true; omega) (Runs.and (fun _ => Runs.opt hr ?_) nf)
        rw [Bool.and_assoc]
        exact Runs.and (fun _ => Runs.opt hr (nt _)) nf
    have ff := Runs.both (b := decide ((i : Int) > 0)) nf nf
    have goal : (itemB s.2.2.2.1 t && (afterO (prevI s.2.2.2.2.1 i) t && itemsB s.2.2.2.1 (some t) (s.2.2.2.2.1.drop (i + 1))) && restB s) = (decide (t.1 ≥ 0) && (decide (t.1 < s.2.2.2.1) && (wordB t.2.1 16 && (if t.2.2.1 = true then decide (t.2.2.2.2.2.1.size = 32) && (decide (t.2.2.2.1.size = 0) && (decide (t.2.2.2.2.1.size = 0) && (afterO (prevI s.2.2.2.2.1 i) t && v))) else decide (t.2.2.2.2.2.1.size = 0) && (decide (t.2.2.2.1.size = 16) && (decide (t.2.2.2.2.1.size ≤ 208) && (afterO (prevI s.2.2.2.2.1 i) t && v))))))) := by
      rw [← hv]
      unfold itemB
      have e1 : decide (t.1 ≥ 0) = !decide (t.1 < 0) := by
        by_cases hc : t.1 < 0
        · rw [decide_eq_true hc, decide_eq_false (by omega)]; rfl
        · rw [decide_eq_false hc, decide_eq_true (by omega)]; rfl
      have e2 : decide (t.1 < s.2.2.2.1) = !decide (t.1 ≥ s.2.2.2.1) := by
        by_cases hc : t.1 < s.2.2.2.1
        · rw [decide_eq_true hc, decide_eq_false (by omega)]; rfl
        · rw [decide_eq_false hc, decide_eq_true (by omega)]; rfl
      rw [e1, e2]
      cases t.2.2.1 <;> simp only [if_true, Bool.false_eq_true, if_false, Bool.and_assoc]
    rw [goal]
    refine Runs.step (fun k => rfl) (Runs.yes (by apply decide_eq_true; omega) (Runs.opt ho (Runs.yes (by rfl) ?_)))
    refine Runs.and (fun _ => Runs.and (fun _ => Runs.bind (isName_ok _ (by omega)) ?_) (Runs.both ff ff)) (Runs.both ff ff)
    cases hf : t.2.2.1 with
    | true =>
      refine Runs.yes (by rfl) (Runs.and (fun _ => ?_) ff)
      rw [if_pos rfl, ← size_n (m := 32), ← empty_iff, ← empty_iff]
      exact Runs.and (fun _ => Runs.and (fun _ => last _) ff) ff
    | false =>
      refine Runs.no (by rfl) (Runs.and (fun _ => ?_) ff)
      rw [if_neg (by decide), ← size_n (m := 16), ← empty_iff]
      have e3 : decide (t.2.2.2.2.1.size ≤ 208) = decide (((t.2.2.2.2.1.size : Int) : Int) ≤ 208) := decide_eq_decide.mpr (by omega)
      rw [e3]
      exact Runs.and (fun _ => Runs.and (fun _ => last _) ff) ff
theorem law_right (s : Show) (h : ShowOk s) : Runs (fun k => chartularylaw19_right.f k s) ((showB s, ()), ()) := by
  have j0 : ∀ b : Bool, Runs (fun k => chartularylaw19_right.j0 k b s.1 s.2.1 s.2.2.1 s.2.2.2.1 s.2.2.2.2.1 s.2.2.2.2.2.1 s.2.2.2.2.2.2.1 s.2.2.2.2.2.2.2.1 s.2.2.2.2.2.2.2.2.1) ((b && (itemsB s.2.2.2.1 none s.2.2.2.2.1 && restB s), ()), ()) := fun b => by
    refine Runs.step (fun k => rfl) ?_
    cases b with
    | true => have := law_true s h _ 0 (Nat.zero_add _); rw [prevI_zero, List.drop_zero] at this; exact this
    | false => exact law_false s h _ 0 (Nat.zero_add _)
  have nf := j0 false
  unfold showB
  generalize (itemsB s.2.2.2.1 none s.2.2.2.2.1 && restB s) = v at j0 nf ⊢
  have ge : ∀ {x y : Int} {w : Bool}, (decide (x ≥ y) && w) = (!decide (x < y) && w) := fun {x y w} => by
    by_cases h : x < y
    · rw [decide_eq_true h, decide_eq_false (by omega)]; rfl
    · rw [decide_eq_false h, decide_eq_true (by omega)]; rfl
  have le : ∀ {x y z : Int} {w : Bool}, z = y + 1 → (decide (x ≤ y) && w) = (!decide (x ≥ z) && w) := fun {x y z w} hz => by
    by_cases h : x ≥ z
    · rw [decide_eq_true h, decide_eq_false (by omega)]; rfl
    · rw [decide_eq_false h, decide_eq_true (by omega)]; rfl
  have le' : ∀ {x y : Int} {w : Bool}, (decide (x ≤ y) && w) = (!decide (x > y) && w) := fun {x y w} => by
    by_cases h : x > y
    · rw [decide_eq_true h, decide_eq_false (by omega)]; rfl
    · rw [decide_eq_false h, decide_eq_true (by omega)]; rfl
  have lt : ∀ {x y : Int} {w : Bool}, (decide (x < y) && w) = (!decide (x ≥ y) && w) := fun {x y w} => by
    by_cases h : x ≥ y
    · rw [decide_eq_true h, decide_eq_false (by omega)]; rfl
    · rw [decide_eq_false h, decide_eq_true (by omega)]; rfl
  refine Runs.step (fun k => rfl) (Runs.bind (isID_ok _ (by have := h.id; omega)) (Runs.and (fun _ => ?_) nf))
  refine (Runs.and (fun _ => ?_) nf).vbool ge
  refine (Runs.and (fun _ => ?_) nf).vbool (le (by rfl))
  refine (Runs.and (fun _ => ?_) nf).vbool ge
  refine (Runs.and (fun _ => ?_) nf).vbool le'
  refine (Runs.and (fun _ => ?_) nf).vbool ge
  refine (Runs.and (fun _ => ?_) nf).vbool le'
  refine (Runs.and (fun _ => ?_) nf).vbool ge
  refine (Runs.and (fun _ => ?_) nf).vbool le'
  refine (Runs.and (fun _ => ?_) nf).vbool ge
  refine (Runs.and (fun _ => ?_) nf).vbool lt
  refine (Runs.and (fun _ => ?_) nf).vbool ge
  exact (j0 _).vbool le'
end Go.Proofs.Ytfegehfdbcnepaa.Pure
