/- Plain laws of chapter 17: groups. -/
import Derived.Test.YtcjiipbppkdkaaaP17g
namespace Go.Proofs.Ytcjiipbppkdkaaa.Pure
open Go Go.Proofs.Ytcjiipbppkdkaaa.E Go.Proofs.Ytcjiipbppkdkaaa.Eng
set_option linter.unusedVariables false
set_option linter.unusedSimpArgs false
abbrev Grp := ValueT × Int × Unit
noncomputable def addG (v : ValueT) : List Grp → List Grp
 | [] => [(v, 1, ())]
 | e :: r => if cmpV e.1 v < 0 then e :: addG v r else if cmpV e.1 v = 0 then (e.1, IntKind.wrap .i64 (e.2.1 + 1), ()) :: r else (v, 1, ()) :: e :: r
def cntL (v : ValueT) : List ValueT → Nat
 | [] => 0
 | u :: r => (if u = v then 1 else 0) + cntL v r
theorem cntL_app (v : ValueT) : ∀ a b : List ValueT, cntL v (a ++ b) = cntL v a + cntL v b
 | [], b => (Nat.zero_add _).symm
 | u :: r, b => by show (if u = v then 1 else 0) + cntL v (r ++ b) = (if u = v then 1 else 0) + cntL v r + cntL v b; rw [cntL_app v r b]; omega
theorem cntL_one (v u : ValueT) : cntL v [u] = if u = v then 1 else 0 := rfl
theorem cntL_le (v : ValueT) : ∀ a : List ValueT, cntL v a ≤ a.length
 | [] => Nat.le_refl _
 | u :: r => by
  have := cntL_le v r
  show (if u = v then 1 else 0) + cntL v r ≤ r.length + 1
  split <;> omega
theorem cntL_pos {v : ValueT} : ∀ {a : List ValueT}, v ∈ a → 0 < cntL v a
 | u :: r, h => by
  show 0 < (if u = v then 1 else 0) + cntL v r
  by_cases e : u = v
  ·rw [if_pos e]; omega
  ·have : v ∈ r := (List.mem_cons.mp h).resolve_left fun x => e x.symm
   have := cntL_pos this
   omega
theorem cntL_zero {v : ValueT} : ∀ {a : List ValueT}, v ∉ a → cntL v a = 0
 | [], _ => rfl
 | u :: r, h => by
  show (if u = v then 1 else 0) + cntL v r = 0
  have h1 : ¬ u = v := fun e => by subst e; exact h (List.mem_cons_self ..)
  rw [if_neg h1, cntL_zero (fun e => h (List.mem_cons_of_mem _ e))]
def SortG (g : List Grp) : Prop := g.Pairwise (fun a b => cmpV a.1 b.1 < 0)
structure GI (vs : List ValueT) (g : List Grp) : Prop where
 ord : SortG g
 cnt : ∀ e ∈ g, e.2.1 = (cntL e.1 vs : Int) ∧ e.1 ∈ vs
 all : ∀ v ∈ vs, ∃ e ∈ g, e.1 = v
 sum : (g.map (fun e => e.2.1)).sum = (vs.length : Int)
theorem addG_keys (v : ValueT) : ∀ (g : List Grp) (x : Grp), x ∈ addG v g → x.1 = v ∨ ∃ e ∈ g, e.1 = x.1
 | [], x, h => by
  unfold addG at h
  rw [List.mem_singleton] at h
  rw [h]; exact .inl rfl
 | e :: r, x, h => by
  unfold addG at h
  split at h
  ·rcases List.mem_cons.mp h with rfl | h
   ·exact .inr ⟨x, List.mem_cons_self .., rfl⟩
   ·rcases addG_keys v r x h with h | ⟨y, h1, h2⟩
    ·exact .inl h
    ·exact .inr ⟨y, List.mem_cons_of_mem _ h1, h2⟩
  ·split at h
   ·rcases List.mem_cons.mp h with rfl | h
    ·exact .inr ⟨e, List.mem_cons_self .., rfl⟩
    ·exact .inr ⟨x, List.mem_cons_of_mem _ h, rfl⟩
   ·rcases List.mem_cons.mp h with rfl | h
    ·exact .inl rfl
    ·exact .inr ⟨x, h, rfl⟩
theorem addG_sort (v : ValueT) : ∀ (g : List Grp), SortG g → SortG (addG v g)
 | [], _ => List.pairwise_singleton ..
 | e :: r, h => by
  have h' := List.pairwise_cons.mp h
  unfold addG
  split
  ·rename_i hc
   refine List.pairwise_cons.mpr ⟨fun x hx => ?_, addG_sort v r h'.2⟩
   rcases addG_keys v r x hx with e1 | ⟨y, hy, e1⟩
   ·rw [e1]; exact hc
   ·rw [← e1]; exact h'.1 y hy
  ·split
   ·exact List.pairwise_cons.mpr ⟨fun x hx => h'.1 x hx, h'.2⟩
   ·rename_i h1 h2
    have n := cmp_neg e.1 v
    refine List.pairwise_cons.mpr ⟨fun x hx => ?_, h⟩
    rcases List.mem_cons.mp hx with rfl | hx
    ·show cmpV v x.1 < 0
     omega
    ·have := h'.1 x hx
     exact cmp_lt (b := e.1) (show cmpV v e.1 < 0 by omega) (show cmpV e.1 x.1 ≤ 0 by omega)
theorem addG_mem (v : ValueT) (hv : FV v) : ∀ (g : List Grp), SortG g → (∀ e ∈ g, FV e.1 ∧ 0 ≤ e.2.1 ∧ e.2.1 ≤ 1000000) → ∀ x ∈ addG v g, (x ∈ g ∧ x.1 ≠ v) ∨ (x.1 = v ∧ ((∃ e ∈ g, e.1 = v ∧ x.2.1 = e.2.1 + 1) ∨ ((∀ e ∈ g, e.1 ≠ v) ∧ x.2.1 = 1)))
 | [], _, _, x, h => by
  unfold addG at h
  rw [List.mem_singleton] at h
  rw [h]; exact .inr ⟨rfl, .inr ⟨(fun e he => nomatch he), rfl⟩⟩
 | e :: r, hs, hf, x, h => by
  have h' := List.pairwise_cons.mp hs
  unfold addG at h
  split at h
  ·rename_i hc
   have hne : e.1 ≠ v := fun e1 => by rw [e1, cmp_self] at hc; omega
   rcases List.mem_cons.mp h with rfl | h
   ·exact .inl ⟨List.mem_cons_self .., hne⟩
   ·rcases addG_mem v hv r h'.2 (fun y hy => hf y (List.mem_cons_of_mem _ hy)) x h with ⟨h1, h2⟩ | ⟨h1, ⟨y, h2, h3⟩ | ⟨h2, h3⟩⟩
    ·exact .inl ⟨List.mem_cons_of_mem _ h1, h2⟩
    ·exact .inr ⟨h1, .inl ⟨y, List.mem_cons_of_mem _ h2, h3⟩⟩
    ·refine .inr ⟨h1, .inr ⟨fun y hy => ?_, h3⟩⟩
     rcases List.mem_cons.mp hy with rfl | hy
     ·exact hne
     ·exact h2 y hy
  ·split at h
   ·rename_i h1 h0
    obtain ⟨f1, f2, f3⟩ := hf e (List.mem_cons_self ..)
    have e1 := cmp_zero f1 hv h0
    rcases List.mem_cons.mp h with rfl | h
    ·refine .inr ⟨e1, .inl ⟨e, List.mem_cons_self .., e1, ?_⟩⟩
     show IntKind.wrap .i64 (e.2.1 + 1) = _
     rw [wrap_i64 (by omega) (by omega)]
    ·refine .inl ⟨List.mem_cons_of_mem _ h, fun e2 => ?_⟩
     have := h'.1 x h
     rw [e1, e2, cmp_self] at this; omega
   ·rename_i h1 h0
    have n := cmp_neg e.1 v
    have hlt : ∀ y ∈ e :: r, cmpV v y.1 < 0 := fun y hy => by
     rcases List.mem_cons.mp hy with rfl | hy
     ·omega
     ·have := h'.1 y hy
      exact cmp_lt (b := e.1) (by omega) (by omega)
    rcases List.mem_cons.mp h with rfl | h
    ·exact .inr ⟨rfl, .inr ⟨fun y hy e2 => by have := hlt y hy; rw [e2, cmp_self] at this; omega, rfl⟩⟩
    ·exact .inl ⟨h, fun e2 => by have := hlt x h; rw [e2, cmp_self] at this; omega⟩
theorem addG_has (v : ValueT) (hv : FV v) : ∀ (g : List Grp), (∀ e ∈ g, FV e.1) → (∃ x ∈ addG v g, x.1 = v) ∧ ∀ e ∈ g, ∃ x ∈ addG v g, x.1 = e.1
 | [], _ => by
  unfold addG
  exact ⟨⟨_, List.mem_singleton.mpr rfl, rfl⟩, fun e he => nomatch he⟩
 | e :: r, hf => by
  have ih := addG_has v hv r (fun y hy => hf y (List.mem_cons_of_mem _ hy))
  unfold addG
  split
  ·refine ⟨?_, fun y hy => ?_⟩
   ·obtain ⟨x, h1, h2⟩ := ih.1
    exact ⟨x, List.mem_cons_of_mem _ h1, h2⟩
   ·rcases List.mem_cons.mp hy with rfl | hy
    ·exact ⟨y, List.mem_cons_self .., rfl⟩
    ·obtain ⟨x, h1, h2⟩ := ih.2 y hy
     exact ⟨x, List.mem_cons_of_mem _ h1, h2⟩
  ·split
   ·rename_i h1 h0
    have e1 := cmp_zero (hf e (List.mem_cons_self ..)) hv h0
    refine ⟨⟨_, List.mem_cons_self .., e1⟩, fun y hy => ?_⟩
    rcases List.mem_cons.mp hy with rfl | hy
    ·exact ⟨_, List.mem_cons_self .., rfl⟩
    ·exact ⟨y, List.mem_cons_of_mem _ hy, rfl⟩
   ·exact ⟨⟨_, List.mem_cons_self .., rfl⟩, fun y hy => ⟨y, List.mem_cons_of_mem _ hy, rfl⟩⟩
theorem addG_sum (v : ValueT) : ∀ (g : List Grp), (∀ e ∈ g, 0 ≤ e.2.1 ∧ e.2.1 ≤ 1000000) → ((addG v g).map (fun e => e.2.1)).sum = (g.map (fun e => e.2.1)).sum + 1
 | [], _ => rfl
 | e :: r, hf => by
  have ih := addG_sum v r (fun y hy => hf y (List.mem_cons_of_mem _ hy))
  obtain ⟨f2, f3⟩ := hf e (List.mem_cons_self ..)
  unfold addG
  split
  ·simp only [List.map_cons, List.sum_cons, ih]; omega
  ·split
   ·simp only [List.map_cons, List.sum_cons]
    rw [wrap_i64 (by omega) (by omega)]; omega
   ·simp only [List.map_cons, List.sum_cons]; omega
theorem GI.add {vs : List ValueT} {g : List Grp} {v : ValueT} (h : GI vs g) (hv : FV v) (hf : ∀ u ∈ vs, FV u) (hl : vs.length ≤ 1000) : GI (vs ++ [v]) (addG v g) := by
 have hb : ∀ e ∈ g, FV e.1 ∧ 0 ≤ e.2.1 ∧ e.2.1 ≤ 1000000 := fun e he => by
  obtain ⟨h1, h2⟩ := h.cnt e he
  have := cntL_le e.1 vs
  exact ⟨hf _ h2, by omega, by omega⟩
 have hno : (∀ e ∈ g, e.1 ≠ v) → cntL v vs = 0 := fun hn => cntL_zero fun hm => by
  obtain ⟨e, h1, h2⟩ := h.all v hm
  exact hn e h1 h2
 have hh := addG_has v hv g (fun e he => (hb e he).1)
 refine ⟨addG_sort v g h.ord, fun x hx => ?_, fun u hu => ?_, ?_⟩
 ·rw [cntL_app, cntL_one]
  rcases addG_mem v hv g h.ord hb x hx with ⟨h1, h2⟩ | ⟨h1, ⟨e, h2, h3, h4⟩ | ⟨h2, h3⟩⟩
  ·obtain ⟨c1, c2⟩ := h.cnt x h1
   refine ⟨?_, List.mem_append_left _ c2⟩
   rw [c1, if_neg (fun e => h2 e.symm)]
   rfl
  ·obtain ⟨c1, c2⟩ := h.cnt e h2
   refine ⟨?_, List.mem_append_right _ (by rw [h1]; exact List.mem_singleton.mpr rfl)⟩
   rw [h4, c1, h3, h1, if_pos rfl]
   rfl
  ·refine ⟨?_, List.mem_append_right _ (by rw [h1]; exact List.mem_singleton.mpr rfl)⟩
   rw [h3, h1, hno h2, if_pos rfl]
   rfl
 ·rcases List.mem_append.mp hu with hu | hu
  ·obtain ⟨e, h1, h2⟩ := h.all u hu
   obtain ⟨x, h3, h4⟩ := hh.2 e h1
   exact ⟨x, h3, h4.trans h2⟩
  ·rw [List.mem_singleton.mp hu]; exact hh.1
 ·rw [addG_sum v g (fun e he => (hb e he).2), h.sum, List.length_append]
  rfl
theorem GI.nil : GI [] [] := ⟨List.Pairwise.nil, fun e he => (nomatch he), fun e he => (nomatch he), rfl⟩
theorem GI.len {vs : List ValueT} {g : List Grp} (h : GI vs g) : g.length ≤ vs.length := by
 have key : ∀ l : List Grp, (∀ e ∈ l, 1 ≤ e.2.1) → (l.length : Int) ≤ (l.map (fun e => e.2.1)).sum := by
  intro l
  induction l with
  | nil => intro _; exact Int.le_refl _
  | cons e r ih =>
   intro hp
   have := ih (fun y hy => hp y (List.mem_cons_of_mem _ hy))
   have := hp e (List.mem_cons_self ..)
   simp only [List.length_cons, List.map_cons, List.sum_cons]; omega
 have := key g (fun e he => by
  obtain ⟨h1, h2⟩ := h.cnt e he
  have := cntL_pos h2
  omega)
 rw [h.sum] at this
 omega
end Go.Proofs.Ytcjiipbppkdkaaa.Pure
