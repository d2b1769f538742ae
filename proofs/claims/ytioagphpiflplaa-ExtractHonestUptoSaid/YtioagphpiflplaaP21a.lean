/- Plain laws of chapter 21: which proofs may be. -/
import Derived.Test.YtioagphpiflplaaPWord
import Derived.Test.YtioagphpiflplaaORead
import Derived.Test.YtioagphpiflplaaPMerkR
namespace Go.Proofs.Ytioagphpiflplaa.Pure
open Go Go.Proofs.Ytioagphpiflplaa.E Go.Proofs.Ytioagphpiflplaa.Eng
set_option linter.unusedVariables false
set_option linter.unusedSimpArgs false

theorem size_zero {s : ByteArray} (h : s.size = 0) : s = ⟨#[]⟩ := by
  rw [size_list] at h
  cases s; congr 1
  exact Array.toList_inj.1 (List.eq_nil_of_length_eq_zero h)
abbrev Item := Int × ByteArray × Bool × ByteArray × ByteArray × ByteArray × Unit
abbrev Show := ByteArray × Int × Int × Int × List Item × List ByteArray × Int × Int × List ByteArray × Unit
theorem size_n {n m : Nat} : (((n : Nat) : Int) == (m : Int)) = decide (n = m) := by
  by_cases h : n = m
  · rw [h]; simp
  · rw [decide_eq_false h]; simp; omega
theorem nbeq_n {n m : Nat} : (((n : Nat) : Int) != (m : Int)) = !decide (n = m) := by
  rw [bne, size_n]
/-- Are all sums, and not too many? -/
def psumsB (l : List ByteArray) (most : Int) : Bool := l.all (fun t => decide (t.size = 32)) && decide ((l.length : Int) ≤ most)
theorem psums_loop (l : List ByteArray) (hl : l.length ≤ 1000000000) (most : Int) : ∀ (m i : Nat), i + m = l.length → Runs (fun k => proof_sums.l0 k l most l (l.length : Int) (i : Int)) ((psumsB (l.drop i) (most - i), ()), ()) := by
  intro m
  induction m with
  | zero =>
    intro i hi
    rw [List.drop_of_length_le (by omega)]
    refine Runs.step (fun k => rfl) (Runs.no (by apply decide_eq_false; omega) (Runs.some' ?_))
    congr 2
    unfold psumsB
    rw [List.all_nil, Bool.true_and]
    exact decide_eq_decide.mpr (by simp; omega)
  | succ m ih =>
    intro i hi
    have hlt : i < l.length := by omega
    have nx := ih (i + 1) (by omega)
    rw [show ((i + 1 : Nat) : Int) = IntKind.wrap .i64 ((i : Int) + 1) from (wrap_i64 (by omega) (by omega)).symm] at nx
    rw [List.drop_eq_getElem_cons hlt]
    unfold psumsB at nx ⊢
    rw [List.all_cons, Bool.and_assoc]
    refine Runs.step (fun k => rfl) (Runs.yes (by apply decide_eq_true; omega) (Runs.opt (rdo_at hlt) ?_))
    rw [show (32 : Int) = ((32 : Nat) : Int) from rfl, nbeq_n]
    refine (Runs.nand (v := l.drop (i + 1) |>.all (fun t => decide (t.size = 32)) |> (· && decide (((l.drop i).length : Int) ≤ most - i))) Runs.some (fun _ => nx.vbool ?_)).vbool (by rw [Bool.not_not, List.drop_eq_getElem_cons hlt])
    congr 1
    exact decide_eq_decide.mpr (by rw [wrap_i64 (by omega) (by omega)]; simp only [List.length_drop]; omega)
theorem psums_ok (l : List ByteArray) (hl : l.length ≤ 1000000000) (most : Int) : Runs (fun k => proof_sums.f k l most) ((psumsB l most, ()), ()) := by
  have := psums_loop l hl most _ 0 (Nat.zero_add _)
  rw [List.drop_zero, show most - ((0 : Nat) : Int) = most by omega] at this
  exact Runs.step (fun k => rfl) this
/-- May a field stand in a proof? -/
noncomputable def itemB (cnt : Int) (t : Item) : Bool := !decide (t.1 < 0) && (!decide (t.1 ≥ cnt) && (wordB t.2.1 16 && (if t.2.2.1 = true then decide (t.2.2.2.2.2.1.size = 32) && (decide (t.2.2.2.1.size = 0) && decide (t.2.2.2.2.1.size = 0)) else decide (t.2.2.2.2.2.1.size = 0) && (decide (t.2.2.2.1.size = 16) && decide (t.2.2.2.2.1.size ≤ 208)))))
def afterO (p : Option Item) (t : Item) : Bool := match p with | none => true | some q => decide (q.1 < t.1) && Op.bytesLess q.2.1.toList t.2.1.toList
noncomputable def itemsB (cnt : Int) : Option Item → List Item → Bool
  | _, [] => true
  | p, t :: l => itemB cnt t && (afterO p t && itemsB cnt (some t) l)
def prevI (l : List Item) (i : Nat) : Option Item := if i = 0 then none else l[i - 1]?
theorem prevI_zero {l : List Item} : prevI l 0 = none := rfl
theorem prevI_pos {l : List Item} {i : Nat} (h0 : i ≠ 0) (h : i - 1 < l.length) : prevI l i = some l[i - 1] := by unfold prevI; rw [if_neg h0]; simp [h]
theorem prevI_succ {l : List Item} {i : Nat} (h : i < l.length) : prevI l (i + 1) = some l[i] := by unfold prevI; rw [if_neg (by omega)]; simp [h]
theorem rightItem_ok (t : Item) (ht : t.2.1.size ≤ 1000000000) (cnt : Int) : Runs (fun k => proof_rightItem.f k t cnt) ((itemB cnt t, ()), ()) := by
  have jt : Runs (fun k => proof_rightItem.j0 k true t.1 t.2.1 t.2.2.1 t.2.2.2.1 t.2.2.2.2.1 t.2.2.2.2.2.1) ((false, ()), ()) := Runs.step (fun k => rfl) Runs.some
  unfold itemB
  refine Runs.step (fun k => rfl) (Runs.nand jt (fun _ => Runs.nand jt (fun _ => Runs.bind (isName_ok _ ht) ?_)))
  refine Runs.step (fun k => rfl) ((Runs.nand (b := !wordB t.2.1 16) Runs.some (fun _ => ?_)).vbool (by rw [Bool.not_not]))
  cases hf : t.2.2.1 with
  | true =>
    refine Runs.yes (by rfl) ?_
    rw [if_pos rfl, ← size_n (m := 32), ← empty_iff, ← empty_iff]
    exact Runs.and (fun _ => Runs.and (fun _ => Runs.some) Runs.some) Runs.some
  | false =>
    refine Runs.no (by rfl) ?_
    rw [if_neg (by decide), ← size_n (m := 16), ← empty_iff]
    refine Runs.and (fun _ => Runs.and (fun _ => Runs.some' ?_) Runs.some) Runs.some
    congr 2; exact decide_eq_decide.mpr (by omega)
structure ShowOk (s : Show) : Prop where
  id : s.1.size ≤ 30000000
  l : s.2.2.2.2.1.length ≤ 30000000
  i : ∀ t ∈ s.2.2.2.2.1, t.2.1.size ≤ 30000000 ∧ t.2.2.2.1.size ≤ 30000000 ∧ t.2.2.2.2.1.size ≤ 30000000 ∧ t.2.2.2.2.2.1.size ≤ 30000000
  n : s.2.2.2.2.2.1.length ≤ 30000000
  nt : ∀ t ∈ s.2.2.2.2.2.1, t.size ≤ 30000000
  p : s.2.2.2.2.2.2.2.2.1.length ≤ 30000000
  pt : ∀ t ∈ s.2.2.2.2.2.2.2.2.1, t.size ≤ 30000000
noncomputable def restB (s : Show) : Bool := psumsB s.2.2.2.2.2.1 12 && psumsB s.2.2.2.2.2.2.2.2.1 16
theorem right_loop (s : Show) (h : ShowOk s) : ∀ (m i : Nat), i + m = s.2.2.2.2.1.length → Runs (fun k => proof_Right.l0 k s.2.2.2.2.1 (s.2.2.2.2.1.length : Int) (i : Int) s.1 s.2.1 s.2.2.1 s.2.2.2.1 s.2.2.2.2.1 s.2.2.2.2.2.1 s.2.2.2.2.2.2.1 s.2.2.2.2.2.2.2.1 s.2.2.2.2.2.2.2.2.1) ((itemsB s.2.2.2.1 (prevI s.2.2.2.2.1 i) (s.2.2.2.2.1.drop i) && restB s, ()), ()) := by
  have hl := h.l
  intro m
  induction m with
  | zero =>
    intro i hi
    rw [List.drop_of_length_le (by omega)]
    refine Runs.step (fun k => rfl) (Runs.no (by apply decide_eq_false; omega) ((Runs.bind (psums_ok _ (by have := h.n; omega) 12) (Runs.and (fun _ => Runs.bind (psums_ok _ (by have := h.p; omega) 16) Runs.some) Runs.some)).vbool ?_))
    simp only [itemsB, Bool.true_and]; rfl
  | succ m ih =>
    intro i hi
    have hlt : i < s.2.2.2.2.1.length := by omega
    have hs := h.i _ (List.getElem_mem hlt)
    have nx := ih (i + 1) (by omega)
    rw [prevI_succ hlt, show ((i + 1 : Nat) : Int) = IntKind.wrap .i64 ((i : Int) + 1) from (wrap_i64 (by omega) (by omega)).symm] at nx
    rw [List.drop_eq_getElem_cons hlt]
    simp only [itemsB]
    rw [Bool.and_assoc, Bool.and_assoc]
    refine Runs.step (fun k => rfl) (Runs.yes (by apply decide_eq_true; omega) (Runs.opt (rdo_at hlt) (Runs.bind (rightItem_ok (s.2.2.2.2.1)[i] (by omega) _) (Runs.nand' Runs.some (fun _ => ?_)))))
    rcases Nat.eq_zero_or_pos i with rfl | h0
    · rw [prevI_zero]; exact Runs.no (by rfl) nx
    · have hlt2 : i - 1 < s.2.2.2.2.1.length := by omega
      have hr : rdo s.2.2.2.2.1 (IntKind.wrap .i64 ((i : Int) - 1)) = some (s.2.2.2.2.1)[i - 1] := by
        rw [wrap_i64 (n := (i : Int) - 1) (by omega) (by omega), show (i : Int) - 1 = ((i - 1 : Nat) : Int) by omega]; exact rdo_at hlt2
      rw [prevI_pos (by omega) hlt2]
      simp only [afterO]
      rw [Bool.and_assoc]
      refine Runs.yes (by apply decide_eq_true; omega) (Runs.opt hr ((Runs.nand Runs.some (fun _ => Runs.opt hr (Runs.nand' Runs.some (fun _ => nx)))).vbool ?_))
      congr 1
      by_cases hc : ((s.2.2.2.2.1)[i - 1]).1 < ((s.2.2.2.2.1)[i]).1
      · rw [decide_eq_true hc, decide_eq_false (by omega)]; rfl
      · rw [decide_eq_false hc, decide_eq_true (by omega)]; rfl
/-- May a proof be? -/
noncomputable def showB (s : Show) : Bool :=
  wordB s.1 24 && (!decide (s.2.1 < 0) && (!decide (s.2.1 ≥ 8) && (!decide (s.2.2.1 < 0) && (!decide (s.2.2.1 > 1099511627776) && (!decide (s.2.2.2.1 < 1) && (!decide (s.2.2.2.1 > 12) &&
    (!decide (s.2.2.2.2.2.2.2.1 < 1) && (!decide (s.2.2.2.2.2.2.2.1 > 65536) && (!decide (s.2.2.2.2.2.2.1 < 0) && (!decide (s.2.2.2.2.2.2.1 ≥ s.2.2.2.2.2.2.2.1) && (!decide ((s.2.2.2.2.1.length : Int) < 1) && (!decide ((s.2.2.2.2.1.length : Int) > s.2.2.2.1) &&
    (itemsB s.2.2.2.1 none s.2.2.2.2.1 && restB s)))))))))))))
theorem right_ok (s : Show) (h : ShowOk s) : Runs (fun k => proof_Right.f k s) ((showB s, ()), ()) := by
  have hl := right_loop s h _ 0 (Nat.zero_add _)
  rw [prevI_zero, List.drop_zero] at hl
  refine Runs.step (fun k => rfl) (Runs.bind (isID_ok _ (by have := h.id; omega)) ?_)
  exact Runs.nand' Runs.some (fun _ => Runs.nand Runs.some (fun _ => Runs.nand Runs.some (fun _ => Runs.nand Runs.some (fun _ => Runs.nand Runs.some (fun _ => Runs.nand Runs.some (fun _ => Runs.nand Runs.some (fun _ => Runs.nand Runs.some (fun _ => Runs.nand Runs.some (fun _ => Runs.nand Runs.some (fun _ => Runs.nand Runs.some (fun _ => Runs.nand Runs.some (fun _ => Runs.nand Runs.some (fun _ => Runs.step (fun k => rfl) hl)))))))))))))
structure ItemSm (t : Item) : Prop where
  n : 0 ≤ t.1 ∧ t.1 < 12
  a : t.2.1.size ≤ 16
  e : t.2.2.1 = true → t.2.2.2.1 = ⟨#[]⟩ ∧ t.2.2.2.2.1 = ⟨#[]⟩
  f : t.2.2.1 = false → t.2.2.2.2.2.1 = ⟨#[]⟩
  s : t.2.2.2.1.size ≤ 16
  v : t.2.2.2.2.1.size ≤ 208
  p : t.2.2.2.2.2.1.size ≤ 32
theorem itemB_sm {cnt : Int} (hc : cnt ≤ 12) {t : Item} (h : itemB cnt t = true) : ItemSm t := by
  unfold itemB at h
  simp only [Bool.and_eq_true, Bool.not_eq_true', decide_eq_false_iff_not] at h
  obtain ⟨h1, h2, h3, h4⟩ := h
  have hw := (wordB_size h3).1
  cases hf : t.2.2.1 with
  | true =>
    rw [if_pos hf] at h4
    simp only [Bool.and_eq_true, decide_eq_true_eq] at h4
    exact ⟨⟨by omega, by omega⟩, by omega, fun _ => ⟨size_zero h4.2.1, size_zero h4.2.2⟩, fun h => by (rw [hf] at h; cases h), by omega, by omega, by omega⟩
  | false =>
    rw [if_neg (by rw [hf]; decide)] at h4
    simp only [Bool.and_eq_true, decide_eq_true_eq] at h4
    exact ⟨⟨by omega, by omega⟩, by omega, fun h => by (rw [hf] at h; cases h), fun _ => size_zero h4.1, by omega, by omega, by omega⟩
structure ShowSm (s : Show) : Prop where
  id : s.1.size ≤ 24
  a : 0 ≤ s.2.1 ∧ s.2.1 < 8
  b : 0 ≤ s.2.2.1 ∧ s.2.2.1 ≤ 1099511627776
  c : 1 ≤ s.2.2.2.1 ∧ s.2.2.2.1 ≤ 12
  l : 1 ≤ s.2.2.2.2.1.length ∧ s.2.2.2.2.1.length ≤ 12
  i : ∀ t ∈ s.2.2.2.2.1, ItemSm t
  n : s.2.2.2.2.2.1.length ≤ 12
  nt : ∀ t ∈ s.2.2.2.2.2.1, t.size = 32
  q : 0 ≤ s.2.2.2.2.2.2.1 ∧ s.2.2.2.2.2.2.1 < 65536
  z : 1 ≤ s.2.2.2.2.2.2.2.1 ∧ s.2.2.2.2.2.2.2.1 ≤ 65536
  p : s.2.2.2.2.2.2.2.2.1.length ≤ 16
  pt : ∀ t ∈ s.2.2.2.2.2.2.2.2.1, t.size = 32
theorem itemsB_all {cnt : Int} : ∀ (l : List Item) (p : Option Item), itemsB cnt p l = true → ∀ t ∈ l, itemB cnt t = true
  | [], _, _, t, ht => by cases ht
  | x :: l, p, h, t, ht => by
    simp only [itemsB, Bool.and_eq_true] at h
    rcases List.mem_cons.1 ht with rfl | ht
    · exact h.1
    · exact itemsB_all l _ h.2.2 t ht
theorem psumsB_facts {l : List ByteArray} {most : Int} (h : psumsB l most = true) : (l.length : Int) ≤ most ∧ ∀ t ∈ l, t.size = 32 := by
  unfold psumsB at h
  simp only [Bool.and_eq_true, decide_eq_true_eq, List.all_eq_true] at h
  exact ⟨h.2, h.1⟩
theorem showB_sm {s : Show} (h : showB s = true) : ShowSm s := by
  unfold showB restB at h
  simp only [Bool.and_eq_true, Bool.not_eq_true', decide_eq_false_iff_not] at h
  obtain ⟨h1, h2, h3, h4, h5, h6, h7, h8, h9, h10, h11, h12, h13, h14, h15, h16⟩ := h
  have hw := (wordB_size h1).1
  have n1 := psumsB_facts h15
  have n2 := psumsB_facts h16
  exact ⟨by omega, ⟨by omega, by omega⟩, ⟨by omega, by omega⟩, ⟨by omega, by omega⟩, ⟨by omega, by omega⟩, fun t ht => itemB_sm (by omega) (itemsB_all _ _ h14 t ht), by omega, n1.2, ⟨by omega, by omega⟩, ⟨by omega, by omega⟩, by omega, n2.2⟩
end Go.Proofs.Ytioagphpiflplaa.Pure
