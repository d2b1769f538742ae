/- Plain laws: items laid, by the writer and by the document. -/
import Derived.Test.YtnlanlhhcgdjiaaPWrite
import Derived.Test.YtnlanlhhcgdjiaaPReads2
namespace Go.Proofs.Ytnlanlhhcgdjiaa.Pure
open Go Go.Proofs.Ytnlanlhhcgdjiaa.E Go.Proofs.Ytnlanlhhcgdjiaa.Eng
set_option linter.unusedVariables false
set_option linter.unusedSimpArgs false

theorem numB_size {n : Nat} (h : n < 72057594037927936) : (numB n).size ≤ 8 ∧ 1 ≤ (numB n).size := by
  have := digs_len 7 n h
  unfold numB; rw [ofL_size]; simp; omega
theorem numB_ne {n : Nat} : numB n ≠ ⟨#[]⟩ := by
  intro h
  have := congrArg ByteArray.size h
  unfold numB at this; rw [ofL_size] at this
  have h0 : (⟨#[]⟩ : ByteArray).size = 0 := rfl
  rw [h0] at this; simp at this
theorem bapp_assoc (a b c : ByteArray) : a ++ b ++ c = a ++ (b ++ c) := by
  have : (a ++ b ++ c).data = (a ++ (b ++ c)).data := by simp only [ByteArray.data_append, Array.append_assoc]
  cases h1 : a ++ b ++ c; cases h2 : a ++ (b ++ c)
  rw [h1, h2] at this; simp only at this; rw [this]
/-- Texts' bytes, one behind the other. -/
def textsB : List ByteArray → ByteArray
  | [] => ⟨#[]⟩
  | t :: l => (numB t.size ++ t) ++ textsB l
/-- An item's bytes; none. -/
def itemB (x : Int × Int × ByteArray × Bool × List ByteArray × Unit) : Option ByteArray :=
  if x.1 = 0 then (if 0 ≤ x.2.1 ∧ x.2.1 < 72057594037927936 then some (numB x.2.1.toNat) else none)
  else if x.1 = 1 then some (numB x.2.2.1.size ++ x.2.2.1)
  else if x.1 = 2 then some (if x.2.2.2.1 then ⟨#[1]⟩ else ⟨#[0]⟩)
  else if x.1 = 3 then some x.2.2.1
  else some (numB x.2.2.2.2.1.length ++ textsB x.2.2.2.2.1)
theorem octet_text {t : ByteArray} (h : t.size ≤ 1048576) : Runs (fun k => octet_Text.f k t) ((numB t.size ++ t, ()), ()) := by
  have hn := octet_num (x := (t.size : Int)) (by omega) (by omega)
  have := numB_size (n := t.size) (by omega)
  refine Runs.step (fun k => rfl) (Runs.bind hn (Runs.ck ?_ (Runs.some' ?_)))
  · apply decide_eq_true; dsimp only; rw [Int.toNat_natCast]; omega
  · dsimp only; rw [Int.toNat_natCast]
theorem writer_text {t s : ByteArray} (h : t.size ≤ 1048576) (hs : s.size ≤ 1000000000) (b : Bool) : Runs (fun k => octet_Writer_Text.f k t s b) ((), ((s ++ (numB t.size ++ t), b, ()), ())) := by
  have := numB_size (n := t.size) (by omega)
  refine Runs.step (fun k => rfl) (Runs.bind (octet_text h) (Runs.ck ?_ Runs.some))
  apply decide_eq_true; dsimp only; rw [ByteArray.size_append]; omega

/-- Texts' bulk. -/
def roomL : List ByteArray → Nat
  | [] => 0
  | t :: l => t.size + 9 + roomL l
theorem writer_texts_loop (l : List ByteArray) (hl : l.length ≤ 1048576) (hb : ∀ t ∈ l, t.size ≤ 1048576) (b : Bool) : ∀ (m i : Nat), i + m = l.length → ∀ s : ByteArray, s.size + roomL (l.drop i) ≤ 1000000000 →
    Runs (fun k => octet_Writer_Texts.l0 k l (l.length : Int) (i : Int) s b) ((), ((s ++ textsB (l.drop i), b, ()), ())) := by
  intro m
  induction m with
  | zero =>
    intro i hi s hs
    rw [List.drop_of_length_le (by omega)]
    refine Runs.step (fun k => rfl) (Runs.no (by apply decide_eq_false; omega) (Runs.some' ?_))
    rw [show s ++ textsB [] = s from by
      have : (s ++ textsB []).data = s.data := by rw [ByteArray.data_append]; simp [textsB]
      cases s; cases h2 : _ ++ textsB []; rw [h2] at this; simp only at this; rw [this]]
  | succ m ih =>
    intro i hi s hs
    have hlt : i < l.length := by omega
    have hmem := List.getElem_mem hlt
    rw [List.drop_eq_getElem_cons hlt] at hs ⊢
    simp only [roomL] at hs
    have hsz := numB_size (n := (l[i]).size) (by have := hb _ hmem; omega)
    refine Runs.step (fun k => rfl) (Runs.yes (by apply decide_eq_true; omega) (Runs.opt (rdo_at hlt) (Runs.bind (writer_text (hb _ hmem) (by omega) b) ?_)))
    rw [wrap_i64 (n := (i : Int) + 1) (by omega) (by omega)]
    have := ih (i + 1) (by omega) (s ++ (numB (l[i]).size ++ l[i])) (by simp only [ByteArray.size_append]; omega)
    simp only [textsB]
    rw [bapp_assoc s] at this
    exact this

theorem empty_app (s : ByteArray) : s ++ textsB [] = s := by
  have : (s ++ textsB []).data = s.data := by rw [ByteArray.data_append]; simp [textsB]
  cases s; cases h2 : _ ++ textsB []; rw [h2] at this; simp only at this; rw [this]
theorem laid_loop (l : List ByteArray) (hl : l.length ≤ 1048576) (hb : ∀ t ∈ l, t.size ≤ 1048576) (o0 o1 : Int) (o2 : ByteArray) (o3 : Bool) : ∀ (m i : Nat), i + m = l.length → ∀ s : ByteArray, s.size + roomL (l.drop i) ≤ 1000000000 →
    Runs (fun k => chartularylaw01_laid.l0 k s (i : Int) o0 o1 o2 o3 l) ((s ++ textsB (l.drop i), true, ()), ()) := by
  intro m
  induction m with
  | zero =>
    intro i hi s hs
    rw [List.drop_of_length_le (by omega)]
    exact Runs.step (fun k => rfl) (Runs.no (by apply decide_eq_false; omega) (Runs.some' (by rw [empty_app])))
  | succ m ih =>
    intro i hi s hs
    have hlt : i < l.length := by omega
    have hmem := List.getElem_mem hlt
    rw [List.drop_eq_getElem_cons hlt] at hs ⊢
    simp only [roomL] at hs
    have hsz := numB_size (n := (l[i]).size) (by have := hb _ hmem; omega)
    have hn := law_num (x := ((l[i]).size : Int)) (by omega) (by have := hb _ hmem; omega)
    rw [Int.toNat_natCast] at hn
    refine Runs.step (fun k => rfl) (Runs.yes (by apply decide_eq_true; omega) (Runs.opt (rdo_at hlt) (Runs.bind hn (Runs.ck ?_ (Runs.opt (rdo_at hlt) (Runs.ck ?_ ?_))))))
    · apply decide_eq_true; dsimp only; omega
    · apply decide_eq_true; dsimp only; rw [ByteArray.size_append]; omega
    · rw [wrap_i64 (n := (i : Int) + 1) (by omega) (by omega)]
      have := ih (i + 1) (by omega) (s ++ (numB (l[i]).size ++ l[i])) (by simp only [ByteArray.size_append]; omega)
      simp only [textsB]
      rw [bapp_assoc s, ← bapp_assoc s (numB _)] at this
      exact this

abbrev Item := Int × Int × ByteArray × Bool × List ByteArray × Unit
/-- What is small enough. -/
structure Small (x : Item) : Prop where
  t : x.2.2.1.size ≤ 1048576
  n : x.2.2.2.2.1.length ≤ 1048576
  l : ∀ t ∈ x.2.2.2.2.1, t.size ≤ 1048576
  r : roomL x.2.2.2.2.1 ≤ 20000000
theorem laid_ok (x : Item) (h : Small x) : Runs (fun k => chartularylaw01_laid.f k (x.1, (x.2.1, (x.2.2.1, (x.2.2.2.1, (x.2.2.2.2.1, ())))))) ((((itemB x).getD ⟨#[]⟩), (itemB x).isSome, ()), ()) := by
  have ht := h.t
  have hn := h.n
  have hr := h.r
  by_cases h0 : x.1 = 0
  · refine Runs.step (fun k => rfl) (Runs.yes (by rw [h0]; rfl) ?_)
    by_cases h1 : 0 ≤ x.2.1 ∧ x.2.1 < 72057594037927936
    · have hi : itemB x = some (numB x.2.1.toNat) := by unfold itemB; rw [if_pos h0, if_pos h1]
      rw [hi]
      refine Runs.bind (law_num h1.1 h1.2) (Runs.bind (law_num h1.1 h1.2) (Runs.some' ?_))
      dsimp only
      rw [beq_text, decide_eq_false numB_ne]; rfl
    · have hi : itemB x = none := by unfold itemB; rw [if_pos h0, if_neg h1]
      rw [hi]
      have h2 : x.2.1 < 0 ∨ x.2.1 ≥ 72057594037927936 := by omega
      refine Runs.bind (law_num_none h2) (Runs.bind (law_num_none h2) (Runs.some' ?_))
      dsimp only
      rw [beq_self_eq_true]; rfl
  refine Runs.step (fun k => rfl) (Runs.no (by simpa using h0) ?_)
  by_cases h1 : x.1 = 1
  · have hi : itemB x = some (numB x.2.2.1.size ++ x.2.2.1) := by unfold itemB; rw [if_neg h0, if_pos h1]
    rw [hi]
    have hl := law_num (x := (x.2.2.1.size : Int)) (by omega) (by omega)
    rw [Int.toNat_natCast] at hl
    have := numB_size (n := x.2.2.1.size) (by omega)
    exact Runs.yes (by rw [h1]; rfl) (Runs.bind hl (Runs.ck (by apply decide_eq_true; dsimp only; omega) Runs.some))
  refine Runs.no (by simpa using h1) ?_
  by_cases h2 : x.1 = 2
  · have hi : itemB x = some (if x.2.2.2.1 then ⟨#[1]⟩ else ⟨#[0]⟩) := by unfold itemB; rw [if_neg h0, if_neg h1, if_pos h2]
    rw [hi]
    refine Runs.yes (by rw [h2]; rfl) (Runs.cond (fun h => Runs.some' ?_) (fun h => Runs.some' ?_))
    · dsimp only at h; rw [h]; rfl
    · dsimp only at h; rw [h]; rfl
  refine Runs.no (by simpa using h2) ?_
  by_cases h3 : x.1 = 3
  · have hi : itemB x = some x.2.2.1 := by unfold itemB; rw [if_neg h0, if_neg h1, if_neg h2, if_pos h3]
    rw [hi]
    exact Runs.yes (by rw [h3]; rfl) Runs.some
  · have hi : itemB x = some (numB x.2.2.2.2.1.length ++ textsB x.2.2.2.2.1) := by unfold itemB; rw [if_neg h0, if_neg h1, if_neg h2, if_neg h3]
    rw [hi]
    have hl := law_num (x := (x.2.2.2.2.1.length : Int)) (by omega) (by omega)
    rw [Int.toNat_natCast] at hl
    have := numB_size (n := x.2.2.2.2.1.length) (by omega)
    exact Runs.no (by simpa using h3) (Runs.bind hl (laid_loop _ hn h.l _ _ _ _ _ 0 (Nat.zero_add _) _ (by rw [List.drop_zero]; dsimp only; omega)))

theorem writer_num {x : Int} (h0 : 0 ≤ x) (h1 : x < 72057594037927936) {s : ByteArray} (hs : s.size ≤ 1000000000) : Runs (fun k => octet_Writer_Num.f k x s false) ((), ((s ++ numB x.toNat, false, ()), ())) := by
  have := numB_size (n := x.toNat) (by omega)
  refine Runs.step (fun k => rfl) (Runs.bind (octet_num h0 h1) (Runs.no (by rfl) (Runs.ck ?_ (Runs.some' ?_))))
  · apply decide_eq_true; dsimp only; omega
  · dsimp only; rw [beq_text, decide_eq_false numB_ne]
theorem lay_ok (x : Item) (h : Small x) {b : ByteArray} (hi : itemB x = some b) {s : ByteArray} (hs : s.size ≤ 900000000) :
    Runs (fun k => chartularylaw01_lay.f k (x.1, (x.2.1, (x.2.2.1, (x.2.2.2.1, (x.2.2.2.2.1, ()))))) s false) ((), ((s ++ b, false, ()), ())) := by
  have ht := h.t
  have hn := h.n
  have hr := h.r
  unfold itemB at hi
  by_cases h0 : x.1 = 0
  · rw [if_pos h0] at hi
    split at hi <;> first | (cases hi; done) | skip
    rename_i h1
    injection hi with hi; subst hi
    exact Runs.step (fun k => rfl) (Runs.yes (by rw [h0]; rfl) (Runs.bind (writer_num h1.1 h1.2 (by omega)) Runs.some))
  rw [if_neg h0] at hi
  refine Runs.step (fun k => rfl) (Runs.no (by simpa using h0) ?_)
  by_cases h1 : x.1 = 1
  · rw [if_pos h1] at hi; injection hi with hi; subst hi
    exact Runs.yes (by rw [h1]; rfl) (Runs.bind (writer_text ht (by omega) false) Runs.some)
  rw [if_neg h1] at hi
  refine Runs.no (by simpa using h1) ?_
  by_cases h2 : x.1 = 2
  · rw [if_pos h2] at hi; injection hi with hi; subst hi
    refine Runs.yes (by rw [h2]; rfl) (Runs.bind (v := ((), ((s ++ (if x.2.2.2.1 then ⟨#[1]⟩ else ⟨#[0]⟩), false, ()), ()))) (Runs.step (fun k => rfl) (Runs.cond (fun h => Runs.ck ?_ (Runs.some' ?_)) (fun h => Runs.ck ?_ (Runs.some' ?_)))) Runs.some)
    · apply decide_eq_true; show s.size + 1 ≤ _; omega
    · dsimp only at h; rw [h]; rfl
    · apply decide_eq_true; show s.size + 1 ≤ _; omega
    · dsimp only at h; rw [h]; rfl
  rw [if_neg h2] at hi
  refine Runs.no (by simpa using h2) ?_
  by_cases h3 : x.1 = 3
  · rw [if_pos h3] at hi; injection hi with hi; subst hi
    exact Runs.yes (by rw [h3]; rfl) (Runs.bind (v := ((), ((s ++ x.2.2.1, false, ()), ()))) (Runs.step (fun k => rfl) (Runs.ck (by apply decide_eq_true; dsimp only; omega) Runs.some)) Runs.some)
  · rw [if_neg h3] at hi; injection hi with hi; subst hi
    have hz := numB_size (n := x.2.2.2.2.1.length) (by omega)
    have hw := writer_num (x := (x.2.2.2.2.1.length : Int)) (by omega) (by omega) (s := s) (by omega)
    rw [Int.toNat_natCast] at hw
    have hl := writer_texts_loop _ hn h.l false _ 0 (Nat.zero_add _) (s ++ numB x.2.2.2.2.1.length) (by rw [List.drop_zero, ByteArray.size_append]; omega)
    rw [List.drop_zero, bapp_assoc] at hl
    exact Runs.no (by simpa using h3) (Runs.bind (v := ((), ((s ++ (numB x.2.2.2.2.1.length ++ textsB x.2.2.2.2.1), false, ()), ()))) (Runs.step (fun k => rfl) (Runs.bind hw hl)) Runs.some)
end Go.Proofs.Ytnlanlhhcgdjiaa.Pure
