/- Plain laws: lists in order: what a stable sorting comes to. -/
import Derived.Test.YtpidgdelfaidoaaPComb
namespace Go.Proofs.Ytpidgdelfaidoaa.Pure
open Go Go.Proofs.Ytpidgdelfaidoaa.Eng
set_option linter.unusedVariables false
set_option linter.unusedSimpArgs false
structure Ord {α : Type} (lt : α → α → Bool) : Prop where
 anti : ∀ a b, lt a b = true → lt b a = false
 tr : ∀ a b c, lt b a = false → lt c b = false → lt c a = false
section
variable {α : Type} {lt : α → α → Bool}
theorem Ord.irr (O : Ord lt) (a : α) : lt a a = false := by
 cases h : lt a a with
 | false => rfl
 | true => have := O.anti a a h; rw [h] at this; cases this
theorem Ord.trl (O : Ord lt) {a b c : α} (h1 : lt a b = true) (h2 : lt c b = false) : lt a c = true := by
 cases h : lt a c with
 | true => rfl
 | false => have := O.tr b c a h2 h; rw [h1] at this; cases this
theorem Ord.trr (O : Ord lt) {a b c : α} (h1 : lt b a = false) (h2 : lt b c = true) : lt a c = true := by
 cases h : lt a c with
 | true => rfl
 | false => have := O.tr c a b h h1; rw [h2] at this; cases this
variable (lt)
def Sorted (l : List α) : Prop := l.Pairwise fun a b => lt b a = false
def eqv (c a : α) : Bool := !lt a c && !lt c a
def Same (l l' : List α) : Prop := ∀ c, l'.filter (eqv lt c) = l.filter (eqv lt c)
variable {lt}
theorem eqv_self (O : Ord lt) (a : α) : eqv lt a a = true := by unfold eqv; rw [O.irr]; rfl
theorem Same.refl (l : List α) : Same lt l l := fun _ => rfl
theorem Same.trans {a b c : List α} (h : Same lt a b) (h' : Same lt b c) : Same lt a c := fun x => (h' x).trans (h x)
theorem Same.app {a a' b b' : List α} (h : Same lt a a') (h' : Same lt b b') : Same lt (a ++ b) (a' ++ b') := fun c => by
 rw [List.filter_append, List.filter_append, h c, h' c]
theorem Same.mem (O : Ord lt) {l l' : List α} (h : Same lt l l') {x : α} (hx : x ∈ l') : x ∈ l := by
 have : x ∈ l'.filter (eqv lt x) := List.mem_filter.2 ⟨hx, eqv_self O x⟩
 rw [h x] at this
 exact (List.mem_filter.1 this).1
theorem Same.symm {l l' : List α} (h : Same lt l l') : Same lt l' l := fun c => (h c).symm
theorem Same.swap (O : Ord lt) {a b : List α} (h : ∀ x ∈ a, ∀ y ∈ b, lt y x = true) : Same lt (a ++ b) (b ++ a) := fun c => by
 rw [List.filter_append, List.filter_append]
 by_cases ha : a.filter (eqv lt c) = []
 ·rw [ha, List.nil_append, List.append_nil]
 ·have hb : b.filter (eqv lt c) = [] := by
   rw [List.filter_eq_nil_iff]
   intro y hy hc
   obtain ⟨x, hx⟩ := List.exists_mem_of_ne_nil _ ha
   obtain ⟨hx1, hx2⟩ := List.mem_filter.1 hx
   have hlt := h x hx1 y hy
   unfold eqv at hc hx2
   simp only [Bool.and_eq_true, Bool.not_eq_true'] at hc hx2
   have := O.tr x c y hx2.2 hc.1
   rw [hlt] at this; cases this
  rw [hb, List.nil_append, List.append_nil]
theorem sorted_unique (O : Ord lt) : ∀ {a b : List α}, Sorted lt a → Sorted lt b → Same lt a b → a = b
 | [], [], _, _, _ => rfl
 | [], y :: b, _, _, h => by have := h.mem O (x := y) (by simp); simp at this
 | x :: a, [], _, _, h => by have := h.symm.mem O (x := x) (by simp); simp at this
 | x :: a, y :: b, ha, hb, h => by
  have ha' := List.pairwise_cons.1 ha
  have hb' := List.pairwise_cons.1 hb
  have h1 : lt x y = false := by
   have hx := h.symm.mem O (x := x) (by simp)
   rcases List.mem_cons.1 hx with e | hx
   ·rw [e]; exact O.irr y
   ·exact hb'.1 x hx
  have h2 : lt y x = false := by
   have hy := h.mem O (x := y) (by simp)
   rcases List.mem_cons.1 hy with e | hy
   ·rw [e]; exact O.irr x
   ·exact ha'.1 y hy
  have hxy : x = y := by
   have := h x
   rw [List.filter_cons_of_pos (by unfold eqv; rw [h1, h2]; rfl), List.filter_cons_of_pos (eqv_self O x)] at this
   exact (List.cons.inj this).1.symm
  subst hxy
  have : Same lt a b := fun c => by
   have := h c
   by_cases hc : eqv lt c x = true
   ·rw [List.filter_cons_of_pos hc, List.filter_cons_of_pos hc] at this; exact (List.cons.inj this).2
   ·rw [List.filter_cons_of_neg hc, List.filter_cons_of_neg hc] at this; exact this
  rw [sorted_unique O ha'.2 hb'.2 this]
theorem Sorted.app {a b : List α} (ha : Sorted lt a) (hb : Sorted lt b) (h : ∀ x ∈ a, ∀ y ∈ b, lt y x = false) : Sorted lt (a ++ b) := List.pairwise_append.2 ⟨ha, hb, h⟩
theorem Sorted.left {a b : List α} (h : Sorted lt (a ++ b)) : Sorted lt a := (List.pairwise_append.1 h).1
theorem Sorted.right {a b : List α} (h : Sorted lt (a ++ b)) : Sorted lt b := (List.pairwise_append.1 h).2.1
theorem Sorted.cross {a b : List α} (h : Sorted lt (a ++ b)) : ∀ x ∈ a, ∀ y ∈ b, lt y x = false := (List.pairwise_append.1 h).2.2
theorem Sorted.one (x : α) : Sorted lt [x] := List.pairwise_singleton _ _
theorem Sorted.ins (O : Ord lt) {a g : List α} {x : α} (h : Sorted lt (a ++ g)) (hg : ∀ y ∈ g, lt x y = true) (ha : ∀ y ∈ a, lt x y = false) : Sorted lt (a ++ x :: g) ∧ Same lt (a ++ g ++ [x]) (a ++ x :: g) := by
 refine ⟨h.left.app (List.pairwise_cons.2 ⟨fun y hy => O.anti _ _ (hg y hy), h.right⟩) (fun y hy z hz => ?_), ?_⟩
 ·rcases List.mem_cons.1 hz with e | hz
  ·rw [e]; exact ha y hy
  ·exact h.cross y hy z hz
 ·rw [List.append_assoc]
  exact (Same.refl a).app (Same.swap O (a := g) (b := [x]) (fun y hy z hz => by rw [List.mem_singleton.1 hz]; exact hg y hy))
theorem Sorted.last (O : Ord lt) {a : List α} {y x : α} (h : Sorted lt (a ++ [y])) (hy : lt x y = false) : ∀ z ∈ a ++ [y], lt x z = false := fun z hz => by
 rcases List.mem_append.1 hz with hz | hz
 ·exact O.tr z y x (h.cross z hz y (by simp)) hy
 ·rw [List.mem_singleton.1 hz]; exact hy
variable (lt)
def insV (x : α) : List α → List α
 | [] => [x]
 | y :: r => match lt x y with | true => x :: y :: r | false => y :: insV x r
def srtV : List α → List α
 | [] => []
 | l => l.foldl (fun s x => insV lt x s) []
variable {lt}
theorem insV_at (O : Ord lt) (x : α) : ∀ {l : List α}, Sorted lt l → ∃ a g, l = a ++ g ∧ insV lt x l = a ++ x :: g ∧ (∀ y ∈ g, lt x y = true) ∧ ∀ y ∈ a, lt x y = false
 | [], _ => ⟨[], [], rfl, rfl, (fun y hy => by cases hy), (fun y hy => by cases hy)⟩
 | y :: r, h => by
  have h' := List.pairwise_cons.1 h
  cases hx : lt x y with
  | true =>
   refine ⟨[], y :: r, rfl, by simp only [insV, hx, List.nil_append], fun z hz => ?_, (fun y hy => by cases hy)⟩
   rcases List.mem_cons.1 hz with e | hz
   ·rw [e]; exact hx
   ·exact O.trl hx (h'.1 z hz)
  | false =>
   obtain ⟨a, g, e1, e2, e3, e4⟩ := insV_at O x h'.2
   refine ⟨y :: a, g, by rw [e1]; rfl, by simp only [insV, hx, e2, List.cons_append], e3, fun z hz => ?_⟩
   rcases List.mem_cons.1 hz with e | hz
   ·rw [e]; exact hx
   ·exact e4 z hz
theorem srt_fold (O : Ord lt) : ∀ (l s : List α), Sorted lt s → Sorted lt (l.foldl (fun s x => insV lt x s) s) ∧ Same lt (s ++ l) (l.foldl (fun s x => insV lt x s) s) ∧ (l.foldl (fun s x => insV lt x s) s).length = s.length + l.length
 | [], s, h => ⟨h, by rw [List.append_nil]; exact Same.refl _, rfl⟩
 | x :: l, s, h => by
  obtain ⟨a, g, e1, e2, e3, e4⟩ := insV_at O x h
  obtain ⟨h1, h2⟩ := Sorted.ins O (by rw [← e1]; exact h) e3 e4
  rw [← e2] at h1 h2
  rw [← e1] at h2
  obtain ⟨q1, q2, q3⟩ := srt_fold O l _ h1
  refine ⟨q1, ?_, ?_⟩
  ·have := (h2.app (Same.refl l)).trans q2
   rwa [List.append_assoc] at this
  ·have hl : (insV lt x s).length = s.length + 1 := by rw [e2, e1]; simp; omega
   rw [List.foldl_cons, q3, hl]; simp only [List.length_cons]; omega
theorem srtV_ok (O : Ord lt) (l : List α) : Sorted lt (srtV lt l) ∧ Same lt l (srtV lt l) ∧ (srtV lt l).length = l.length := by
 cases l with
 | nil => exact ⟨List.Pairwise.nil, Same.refl _, rfl⟩
 | cons x l =>
  obtain ⟨h1, h2, h3⟩ := srt_fold O (x :: l) [] List.Pairwise.nil
  rw [List.nil_append] at h2
  exact ⟨h1, h2, by rw [List.length_nil, Nat.zero_add] at h3; exact h3⟩
theorem srtV_of (O : Ord lt) {l s : List α} (h : Sorted lt s) (h' : Same lt l s) : s = srtV lt l := by
 obtain ⟨h1, h2, _⟩ := srtV_ok O l
 exact sorted_unique O h h1 (h'.symm.trans h2)
end
/-! ## Places -/
section
variable {α : Type}
theorem rdo_mid {P R : List α} {x : α} {i : Int} (h : i = (P.length : Int)) : rdo (P ++ x :: R) i = some x := by
 subst h
 unfold rdo
 rw [if_pos (by omega), Int.toNat_natCast, List.getElem?_append_right (Nat.le_refl _), Nat.sub_self]; rfl
theorem set_mid {P R : List α} {x y : α} {i : Int} (h : i = (P.length : Int)) : (P ++ x :: R).set i.toNat y = P ++ y :: R := by
 subst h
 rw [Int.toNat_natCast, List.set_append_right _ _ (Nat.le_refl _), Nat.sub_self]; rfl
theorem ckI {i n : Int} (h0 : 0 ≤ i) (h1 : i < n) : (decide (0 ≤ i) && decide (i < n)) = true := by
 rw [decide_eq_true h0, decide_eq_true h1]; rfl
theorem wi {i : Int} (h1 : -1000000 ≤ i) (h2 : i ≤ 1000000) : IntKind.wrap .i64 i = i := wrap_i64 (by omega) (by omega)
end
end Go.Proofs.Ytpidgdelfaidoaa.Pure
