/- OctetReads: whatever is asked of a reader of any bytes, it answers as the document's. -/
import Derived.Test.YtnlanlhhcgdjiaaPReads2
namespace Go.Proofs.Ytnlanlhhcgdjiaa.Pure
open Go Go.Proofs.Ytnlanlhhcgdjiaa.E Go.Proofs.Ytnlanlhhcgdjiaa.Eng
set_option linter.unusedVariables false
set_option linter.unusedSimpArgs false

theorem left_ok {s : ByteArray} (hs : s.size ≤ 30000000) {a : Nat} (ha : a ≤ s.size) (e : Int) : Runs (fun k => octet_Reader_Left.f k s (a : Int) e) (((if e = 0 then ((s.size - a : Nat) : Int) else 0), ()), ()) := by
  refine Runs.step (fun k => rfl) (Runs.bind (err_ok _ _ _) (Runs.cond (fun h => ?_) (fun h => ?_)))
  · have he : e ≠ 0 := by simpa using h
    exact Runs.some' (by rw [if_neg he])
  · have he : e = 0 := by simpa using h
    exact Runs.some' (by rw [if_pos he, wrap_i64 (by omega) (by omega), Int.ofNat_sub ha])
/-- A truth read. -/
def flagV (r : ByteArray × Nat × Int) : Bool × Nat × Int := if !(Op.bytesLess r.1.toList (⟨#[1]⟩ : ByteArray).toList || r.1.toList == (⟨#[1]⟩ : ByteArray).toList) then (false, r.2.1, (if r.2.2 = 0 then 4 else r.2.2)) else (r.1.toList == (⟨#[1]⟩ : ByteArray).toList, r.2)
theorem flag_ok {s : ByteArray} (hs : s.size ≤ 30000000) {a : Nat} (ha : a ≤ s.size) (e : Int) :
    Runs (fun k => octet_Reader_Flag.f k s (a : Int) e) (((flagV (rawV s a e 1)).1, ()), ((s, ((flagV (rawV s a e 1)).2.1 : Int), (flagV (rawV s a e 1)).2.2, ()), ())) := by
  refine Runs.step (fun k => rfl) (Runs.bind (reader_raw hs ha e 1) (Runs.cond (fun h => Runs.bind (fail_ok _ _ _ _) (Runs.some' ?_)) (fun h => Runs.some' ?_)))
  · rw [show flagV (rawV s a e 1) = _ from if_pos h]
  · rw [show flagV (rawV s a e 1) = _ from if_neg (by rw [h]; decide)]
theorem end_ok {s : ByteArray} (hs : s.size ≤ 30000000) {a : Nat} (ha : a ≤ s.size) (e : Int) :
    Runs (fun k => octet_Reader_End.f k s (a : Int) e) (((if e = 0 ∧ a < s.size then 4 else e), ()), ((s, (a : Int), (if e = 0 ∧ a < s.size then 4 else e), ()), ())) := by
  refine Runs.step (fun k => rfl) (Runs.bind (left_ok hs ha e) (Runs.dec (fun h => Runs.bind (fail_ok _ _ _ _) (Runs.bind (err_ok _ _ _) (Runs.some' ?_))) (fun h => Runs.bind (err_ok _ _ _) (Runs.some' ?_))))
  · dsimp only at h
    by_cases he : e = 0
    · rw [if_pos he] at h
      have hc : e = 0 ∧ a < s.size := ⟨he, by omega⟩
      rw [if_pos hc]; simp only [if_pos he]
    · rw [if_neg he] at h; omega
  · have hc : ¬ (e = 0 ∧ a < s.size) := by
      rintro ⟨he, hlt⟩
      dsimp only at h
      rw [if_pos he] at h; omega
    rw [if_neg hc]
theorem same_loop (l : List ByteArray) (hl : l.length ≤ 30000000) (s : ByteArray) (a e : Int) (t : ByteArray) (e' : Int) : ∀ (m i : Nat), i + m = l.length →
    Runs (fun k => chartularylaw01_step.l0 k l l (i : Int) s a e t e') ((true, ()), ((s, a, e, ()), (t, e', ()), ())) := by
  intro m
  induction m with
  | zero =>
    intro i hi
    exact Runs.step (fun k => rfl) (Runs.no (by apply decide_eq_false; omega) (Runs.some' (by rw [beq_self_eq_true])))
  | succ m ih =>
    intro i hi
    have hlt : i < l.length := by omega
    refine Runs.step (fun k => rfl) (Runs.yes (by apply decide_eq_true; omega) (Runs.yes (beq_self_eq_true _) (Runs.opt (rdo_at hlt) (Runs.opt (rdo_at hlt) (Runs.no (by rw [beq_self_eq_true]; rfl) ?_)))))
    rw [wrap_i64 (n := (i : Int) + 1) (by omega) (by omega)]
    exact ih (i + 1) (by omega)

theorem less_one (b : UInt8) : (!(Op.bytesLess [b] [(1 : UInt8)] || [b] == [(1 : UInt8)])) = decide ((b.toNat : Int) > 1) := by
  simp only [Op.bytesLess, Bool.and_false, Bool.or_false]
  by_cases h : b < 1
  · have h0 : b.toNat < 1 := UInt8.lt_iff_toNat_lt.mp h
    rw [decide_eq_true h]; simp; omega
  · rw [decide_eq_false h]
    by_cases h1 : b = 1
    · subst h1; decide
    · have h2 : ¬ b.toNat < 1 := fun x => h (UInt8.lt_iff_toNat_lt.mpr x)
      have h3 : b.toNat ≠ 1 := fun x => h1 (UInt8.toNat_inj.mp x)
      have h4 : ([b] == [(1 : UInt8)]) = false := beq_eq_false_iff_ne.mpr (by intro h; simp at h; exact h1 h)
      rw [h4, decide_eq_true (by omega : (b.toNat : Int) > 1)]; rfl
/-- One question: both answer alike, and stand alike. -/
theorem step_ok {s : ByteArray} (hs : s.size ≤ 30000000) {a : Nat} (ha : a ≤ s.size) (e : Int) (x : Int × Int × Int × Unit) : ∃ (a' : Nat) (e' : Int), a' ≤ s.size ∧
    Runs (fun k => chartularylaw01_step.f k (x.1, (x.2.1, (x.2.2.1, ()))) s (a : Int) e (rest s a) e) ((true, ()), ((s, (a' : Int), e', ()), (rest s a', e', ()), ())) := by
  by_cases h0 : x.1 = 0
  · refine ⟨(numV s a e x.2.1).2.1, (numV s a e x.2.1).2.2, numV_le ha e x.2.1, Runs.step (fun k => rfl) (Runs.yes (by rw [h0]; rfl) (Runs.bind (reader_num hs ha e _) (Runs.bind (plain_num hs ha e _) (Runs.some' ?_))))⟩
    dsimp only; rw [beq_self_eq_true]
  by_cases h1 : x.1 = 1
  · refine ⟨(textV s a e x.2.1).2.1, (textV s a e x.2.1).2.2, textV_le ha e x.2.1, Runs.step (fun k => rfl) (Runs.no (by simpa using h0) (Runs.yes (by rw [h1]; rfl) (Runs.bind (reader_text hs ha e _) (Runs.bind (plain_num hs ha e _) (Runs.bind (plain_raw hs (numV_le ha e _) _ _) (Runs.some' ?_))))))⟩
    show ((((textV s a e x.2.1).1.toList == (textV s a e x.2.1).1.toList), ()), _) = _
    rw [beq_self_eq_true]; rfl
  by_cases h2 : x.1 = 2
  · have hle := rawV_le ha e 1
    cases hr : (rawV s a e 1).1.data.toList with
    | nil =>
      have e0 : (rawV s a e 1).1.toList = [] := by rw [toList_eq, hr]
      have e1 : (⟨#[1]⟩ : ByteArray).toList = [1] := by rw [toList_eq]
      have hf : flagV (rawV s a e 1) = (false, (rawV s a e 1).2) := by
        unfold flagV
        rw [e0, e1]; rfl
      refine ⟨(rawV s a e 1).2.1, (rawV s a e 1).2.2, hle, Runs.step (fun k => rfl) (Runs.no (by simpa using h0) (Runs.no (by simpa using h1) (Runs.yes (by rw [h2]; rfl) (Runs.bind (plain_raw hs ha e 1) (Runs.no ?_ (Runs.bind (flag_ok hs ha e) (Runs.some' ?_)))))))⟩
      · rw [toList_nil hr, beq_self_eq_true]; rfl
      · rw [hf, e0, e1]; rfl
    | cons t r =>
      have he0 := rawV_one hr
      have hr1 : r = [] := by
        have := @rawV_len s a e 1
        rw [show ((1 : Nat) : Int) = 1 from rfl, hr] at this
        simpa using this
      subst hr1
      have hl : (rawV s a e 1).1.toList = [t] := by rw [toList_eq, hr]
      have e1 : (⟨#[1]⟩ : ByteArray).toList = [1] := by rw [toList_eq]
      have hbt : bto (rawV s a e 1).1 0 = some (t.toNat : Int) := by
        have := bto_at (s := (rawV s a e 1).1) (i := 0) (by rw [hr]; simp)
        simp only [hr] at this; exact this
      have hne : (!((rawV s a e 1).1.toList == (⟨#[]⟩ : ByteArray).toList)) = true := by rw [hl, toList_eq]; rfl
      by_cases ht : (t.toNat : Int) > 1
      · have hf : flagV (rawV s a e 1) = (false, (rawV s a e 1).2.1, 4) := by
          unfold flagV; rw [hl, e1, less_one, if_pos (decide_eq_true ht), if_pos he0]
        refine ⟨(rawV s a e 1).2.1, 4, hle, Runs.step (fun k => rfl) (Runs.no (by simpa using h0) (Runs.no (by simpa using h1) (Runs.yes (by rw [h2]; rfl) (Runs.bind (plain_raw hs ha e 1) (Runs.yes hne (Runs.opt hbt (Runs.yes (decide_eq_true ht) (Runs.bind (flag_ok hs ha e) (Runs.some' ?_)))))))))⟩
        have hb : ([t] == [(1 : UInt8)]) = false := by
          rw [beq_eq_false_iff_ne]; intro h; simp at h; subst h; simp at ht
        rw [hf, hl, e1, hb]; rfl
      · have hf : flagV (rawV s a e 1) = ([t] == [(1 : UInt8)], (rawV s a e 1).2) := by
          unfold flagV; rw [hl, e1, less_one, if_neg (by rw [decide_eq_false ht]; decide)]
        refine ⟨(rawV s a e 1).2.1, (rawV s a e 1).2.2, hle, Runs.step (fun k => rfl) (Runs.no (by simpa using h0) (Runs.no (by simpa using h1) (Runs.yes (by rw [h2]; rfl) (Runs.bind (plain_raw hs ha e 1) (Runs.yes hne (Runs.opt hbt (Runs.no (decide_eq_false ht) (Runs.bind (flag_ok hs ha e) (Runs.some' ?_)))))))))⟩
        rw [hf, hl, e1]
        dsimp only; rw [beq_self_eq_true]
  by_cases h3 : x.1 = 3
  · refine ⟨(rawV s a e x.2.1).2.1, (rawV s a e x.2.1).2.2, rawV_le ha e x.2.1, Runs.step (fun k => rfl) (Runs.no (by simpa using h0) (Runs.no (by simpa using h1) (Runs.no (by simpa using h2) (Runs.yes (by rw [h3]; rfl) (Runs.bind (reader_raw hs ha e _) (Runs.bind (plain_raw hs ha e _) (Runs.some' ?_)))))))⟩
    dsimp only; rw [beq_self_eq_true]
  by_cases h4 : x.1 = 4
  · obtain ⟨l, a', e', ⟨g1, g2⟩, g3, g4⟩ := texts_ok hs ha e x.2.1 x.2.2.1
    exact ⟨a', e', g1, Runs.step (fun k => rfl) (Runs.no (by simpa using h0) (Runs.no (by simpa using h1) (Runs.no (by simpa using h2) (Runs.no (by simpa using h3) (Runs.yes (by rw [h4]; rfl) (Runs.bind g3 (Runs.bind g4 (same_loop l g2 _ _ _ _ _ _ 0 (Nat.zero_add _)))))))))⟩
  by_cases h5 : x.1 = 5
  · refine ⟨a, if e = 0 then x.2.1 else e, ha, Runs.step (fun k => rfl) (Runs.no (by simpa using h0) (Runs.no (by simpa using h1) (Runs.no (by simpa using h2) (Runs.no (by simpa using h3) (Runs.no (by simpa using h4) (Runs.yes (by rw [h5]; rfl) (Runs.bind (fail_ok _ _ _ _) (Runs.cond (fun h => Runs.some' ?_) (fun h => Runs.some' ?_)))))))))⟩
    · have he : e = 0 := by simpa using h
      simp only [if_pos he]
    · have he : e ≠ 0 := by simpa using h
      simp only [if_neg he]
  · have j0 : ∀ e2 : Int, e2 = (if e = 0 ∧ a < s.size then 4 else e) → Runs (fun k => chartularylaw01_step.j0 k s (a : Int) e (rest s a) e2) ((true, ()), ((s, (a : Int), e2, ()), (rest s a, e2, ()), ())) := fun e2 h => by
      refine Runs.step (fun k => rfl) (Runs.bind (end_ok hs ha e) (Runs.some' ?_))
      rw [← h]; dsimp only; rw [beq_self_eq_true]
    refine ⟨a, if e = 0 ∧ a < s.size then 4 else e, ha, Runs.step (fun k => rfl) (Runs.no (by simpa using h0) (Runs.no (by simpa using h1) (Runs.no (by simpa using h2) (Runs.no (by simpa using h3) (Runs.no (by simpa using h4) (Runs.no (by simpa using h5) (Runs.cond (fun h => ?_) (fun h => ?_))))))))⟩
    · have he : e = 0 := by simpa using h
      refine Runs.dec (fun hp => ?_) (fun hp => ?_)
      · rw [rest_size] at hp
        have hc : e = 0 ∧ a < s.size := ⟨he, by omega⟩
        rw [if_pos hc]; exact j0 4 (by rw [if_pos hc])
      · rw [rest_size] at hp
        have hc : ¬ (e = 0 ∧ a < s.size) := fun h => by omega
        rw [if_neg hc]; exact j0 e (by rw [if_neg hc])
    · have he : e ≠ 0 := by simpa using h
      have hc : ¬ (e = 0 ∧ a < s.size) := fun h => he h.1
      rw [if_neg hc]; exact j0 e (by rw [if_neg hc])

theorem law_loop {s : ByteArray} (hs : s.size ≤ 30000000) (l : List (Int × Int × Int × Unit)) (hl : l.length ≤ 1048576) : ∀ (m i : Nat), i + m = l.length → ∀ (a : Nat) (e : Int), a ≤ s.size →
    Runs (fun k => chartularylaw01_OctetReads.l0 k l (i : Int) s (a : Int) e (rest s a) e) ((true, ()), ()) := by
  intro m
  induction m with
  | zero => intro i hi a e ha; exact Runs.step (fun k => rfl) (Runs.no (by apply decide_eq_false; omega) (Runs.bind awake_ok Runs.some))
  | succ m ih =>
    intro i hi a e ha
    have hlt : i < l.length := by omega
    refine Runs.step (fun k => rfl) (Runs.yes (by apply decide_eq_true; omega) (Runs.dec (fun _ => ?_) (fun _ => Runs.bind awake_ok Runs.some)))
    obtain ⟨a', e', h1, h2⟩ := step_ok hs ha e l[i]
    have next := ih (i + 1) (by omega) a' e' h1
    rw [show ((i + 1 : Nat) : Int) = IntKind.wrap .i64 ((i : Int) + 1) from by rw [wrap_i64 (by omega) (by omega)]; rfl] at next
    refine Runs.opt (rdo_at hlt) (Runs.bind h2 (Runs.no (by rfl) (Runs.bind (err_ok _ _ _) (Runs.no (by simp) (Runs.cond (fun h => ?_) (fun h => ?_))))))
    · have he : e' ≠ 0 := by simpa using h
      exact Runs.bind (left_ok hs h1 e') (Runs.no (by rw [if_neg he]; rfl) next)
    · have he : e' = 0 := by simpa using h
      exact Runs.bind (left_ok hs h1 e') (Runs.no (by rw [if_pos he, rest_size]; simp) next)

/-- OctetReads, in plain numbers and lists. -/
theorem OctetReads : chartularylaw01_OctetReads.Pure := by
  intro x0 x1 _ _ hb
  have hl : x1.length ≤ 1048576 :=
    Nat.le_trans (sumB_len (bulkT (.cons (.int .i64) (.cons (.int .i64) (.cons (.int .i64) .nil)))) (fun y => by simp [bulkT]) x1) (Nat.le_trans (Nat.le_add_left _ _) hb)
  have main : ∀ s : ByteArray, s.size ≤ 1000 → Runs (fun k => chartularylaw01_OctetReads.j0 k s x1) ((true, ()), ()) := fun s hs => by
    have h := law_loop (s := s) (by omega) x1 hl x1.length 0 (Nat.zero_add _) 0 0 (Nat.zero_le _)
    have hr : rest s 0 = s := by unfold rest; simp
    rw [hr] at h
    exact Runs.step (fun k => rfl) (Runs.bind (v := (((), ()), ((s, 0, 0, ()), ()))) (Runs.step (fun k => rfl) Runs.some) h)
  refine Runs.ex (f := fun k => chartularylaw01_OctetReads.f k x0 x1) (Runs.step (fun k => rfl) (Runs.dec (fun h => Runs.ck ?_ (main _ ?_)) (fun h => main _ (by omega))))
  · simp; omega
  · rw [ByteArray.size_extract]
    show min (Int.toNat 1000) x0.size - Int.toNat 0 ≤ 1000
    omega
end Go.Proofs.Ytnlanlhhcgdjiaa.Pure
